/- The walk of NodeLearns. -/
import Derived.Test.YtdpgbgapelgomaaNd12
import Derived.Test.YtdpgbgapelgomaaNdMath5
namespace Go.Proofs.Ytdpgbgapelgomaa
open Go.RowKit Go.Deep

theorem Fr.two {N M : Nat} {w a b : World} (h : Fr NoB w a) (k : Fr (TwoB N M) a b) (hN : w.heap.size ≤ N) (hM : w.heap.size ≤ M) : Fr NoB w b :=
  h.trans' k (fun i hi h => by rcases h with h | h <;> omega)
def NdRel (me : Nat) (X : Nat → Int) (n : Nat) (w : World) (N M : Nat) (i : Value) (wr : World) : Prop :=
  ∃ k : Nat, k ≤ n ∧ i = .int .i64 k ∧ NAt wr N 110 (Nd.runN me X k) ∧ NAt wr M 68 (Nd.runN me X k) ∧ Fr NoB w wr
def LnRel (s : Nd.NS) (who : Nat) (c : Int) (a : Option Addr) (w : World) (N Q : Nat) (i : Value) (wr : World) : Prop :=
  ∃ (k : Nat) (x : Nd.NS), k ≤ 6 ∧ i = .int .i64 k ∧ Nd.Lrn s who c k x ∧ Nd.Ok x ∧ NAt wr N 110 s ∧ NAt wr Q 110 x ∧ Rd wr a (6 * 5) (fun i => (Nd.tellL s who 6).getD i 0) ∧ Fr NoB w wr
def LeRel (s x : Nd.NS) (w : World) (N Q : Nat) (i : Value) (wr : World) : Prop :=
  ∃ k : Nat, k ≤ 6 ∧ i = .int .i64 k ∧ NAt wr N 110 s ∧ NAt wr Q 110 x ∧ Fr NoB w wr
theorem tell_get (s : Nd.NS) (who : Int) (i : Nat) (hi : i < 6) : (Nd.tellL s who 6).getD (i * 5) 0 = s.me ∧ (Nd.tellL s who 6).getD (i * 5 + 1) 0 = who ∧ (Nd.tellL s who 6).getD (i * 5 + 2) 0 = i ∧ (Nd.tellL s who 6).getD (i * 5 + 3) 0 = s.wS i ∧ (Nd.tellL s who 6).getD (i * 5 + 4) 0 = s.wD i := by
  match i, hi with
  | 0, _ => exact ⟨rfl, rfl, rfl, rfl, rfl⟩
  | 1, _ => exact ⟨rfl, rfl, rfl, rfl, rfl⟩
  | 2, _ => exact ⟨rfl, rfl, rfl, rfl, rfl⟩
  | 3, _ => exact ⟨rfl, rfl, rfl, rfl, rfl⟩
  | 4, _ => exact ⟨rfl, rfl, rfl, rfl, rfl⟩
  | 5, _ => exact ⟨rfl, rfl, rfl, rfl, rfl⟩

set_option maxRecDepth 100000 in
set_option maxHeartbeats 8000000 in
theorem NodeLearns_main (me : Nat) (a0 : Option Addr) (n c : Nat) (X : Nat → Int) (cost : Int) (w : World) (hn : n ≤ 200) (hme : me < 6) (hc1 : 1 ≤ cost) (hc2 : cost ≤ 15) (hX : Rd w a0 (n * 7) X) :
    Calls Try.prog 6 #[.int .i64 me, .slice a0 n c, .int .i64 cost] w (TrueFr w) := by
  have HX := Lib.hid hX; clear hX
  go_enter Try.func6, Try.ntmps6
  go_wp2_with fail
  refine (nodeBegun_true _).mono ?_
  rintro e w1 ⟨rfl, hF⟩
  have HF := Lib.hid hF; clear hF
  go_wp2_with fail
  refine (New_yes me _ hme).mono ?_
  rintro e w2 ⟨rfl, hN, hF⟩
  have hNz := HF.out.size
  have hF := HF.out.trans hF
  clear HF
  have HN := Lib.hid hN; clear hN; have HF := Lib.hid hF; clear hF
  go_wp2_with fail
  refine (NewMind_any me _ hme).mono ?_
  rintro e w3 ⟨rfl, hM, hF⟩
  have hMz := HF.out.size
  have hNM : w1.heap.size ≠ w2.heap.size := by have := HN.out.lt; omega
  have hN := HN.out.keep hF (fun h => h)
  have hF := HF.out.trans hF
  clear HF HN
  have HN := Lib.hid hN; clear hN; have HM := Lib.hid hM; clear hM; have HF := Lib.hid hF; clear hF; have HNM := Lib.hid hNM; clear hNM; have HNZ := Lib.hid hNz; clear hNz; have HMZ := Lib.hid hMz; clear hMz
  go_wp2
  go_loopw [9] (fun i wr => NdRel me X n w w1.heap.size w2.heap.size i wr) (fun i _ => n - (intOf i).toNat)
  case atStart => exact ⟨0, by omega, rfl, HN.out, HM.out, HF.out⟩
  case round =>
    clear HN HM HF
    obtain ⟨k, hk, rfl, h1, h2, h3⟩ := hrel
    have HN := Lib.hid h1; clear h1; have HM := Lib.hid h2; clear h2; have HF := Lib.hid h3; clear h3
    have HR := Lib.hid (Nd.runN_run hme X k)
    have HW := Lib.hid (Nd.runN_wy hme X k)
    by_cases hkn : k < n
    · obtain ⟨b0, o0, rfl, c0⟩ := HX.out (k * 7) (by omega)
      obtain ⟨b1, o1, e1, c1⟩ := HX.out (k * 7 + 1) (by omega)
      obtain ⟨b2, o2, e2, c2⟩ := HX.out (k * 7 + 2) (by omega)
      obtain ⟨b3, o3, e3, c3⟩ := HX.out (k * 7 + 3) (by omega)
      obtain ⟨b4, o4, e4, c4⟩ := HX.out (k * 7 + 4) (by omega)
      obtain ⟨b5, o5, e5, c5⟩ := HX.out (k * 7 + 5) (by omega)
      obtain ⟨b6, o6, e6, c6⟩ := HX.out (k * 7 + 6) (by omega)
      cases e1; cases e2; cases e3; cases e4; cases e5; cases e6
      have hst : Nd.runN me X (k + 1) = Nd.stepN (Nd.runN me X k) (X (k * 7)) (X (k * 7 + 1)) (X (k * 7 + 2)) (X (k * 7 + 4)) (X (k * 7 + 5)) (X (k * 7 + 6)) := rfl
      generalize X (k * 7) = x0 at *
      generalize X (k * 7 + 1) = x1 at *
      generalize X (k * 7 + 2) = x2 at *
      generalize X (k * 7 + 3) = x3 at *
      generalize X (k * 7 + 4) = x4 at *
      generalize X (k * 7 + 5) = x5 at *
      generalize X (k * 7 + 6) = x6 at *
      have HST := Lib.hid hst; clear hst
      have c0 := cell_fr HF.out c0 (fun h => h)
      have c1 := cell_fr HF.out c1 (fun h => h)
      have c2 := cell_fr HF.out c2 (fun h => h)
      have c3 := cell_fr HF.out c3 (fun h => h)
      have c4 := cell_fr HF.out c4 (fun h => h)
      have c5 := cell_fr HF.out c5 (fun h => h)
      have c6 := cell_fr HF.out c6 (fun h => h)
      rw [← Nat.add_assoc] at c1 c2 c3 c4 c5 c6
      go_wp2_with fail
      refine (nodeStep_any w1.heap.size w2.heap.size x0 x1 x2 x3 x4 x5 x6 _ k _ HR.out (by omega) HNM.out HN.out HM.out).mono ?_
      rintro e w4 ⟨rfl, h1, h2, h3⟩
      have h3 := HF.out.two h3 HNZ.out HMZ.out
      rw [← HST.out] at h1 h2
      clear HN HM HF c0 c1 c2 c3 c4 c5 c6 HR
      have HN := Lib.hid h1; clear h1; have HM := Lib.hid h2; clear h2; have HF := Lib.hid h3; clear h3
      go_wp2
      go_roundw
      case rel => exact ⟨k + 1, by omega, by go_num, HN.out, HM.out, HF.out⟩
      case measure => simp [intOf]; omega
    · generalize hsk : Nd.runN me X k = s at *
      have hsm : s.me = me := by rw [← hsk]; exact Nd.runN_me me X k
      have hkb : decide ((k : Int) < (n : Int)) = false := by simp; omega
      clear hsk HM
      obtain ⟨who, hwd⟩ : ∃ q : Nat, q = (me + 1) % 6 := ⟨_, rfl⟩
      have hw6 : who < 6 := by omega
      have hwm : me ≠ who := by omega
      have hwi : ((me : Int) + 1) % 6 = (who : Int) := by omega
      have HSM := Lib.hid hsm; clear hsm; have HWD := Lib.hid hwd; clear hwd; have HWM := Lib.hid hwm; clear hwm
      go_wp2_with fail
      rw [hwi]
      clear hwi
      refine (New_yes who _ hw6).mono ?_
      rintro e w4 ⟨rfl, hQ, hF⟩
      have h1 := HN.out.keep hF (fun h => h)
      have hqN : wr.heap.size ≠ w1.heap.size := by have := HN.out.lt; omega
      have hqz := HF.out.size
      have h3 := HF.out.trans hF
      generalize wr.heap.size = q at *
      clear HN HF hF
      have HN := Lib.hid h1; clear h1; have HF := Lib.hid h3; clear h3; have HQ := Lib.hid hQ; clear hQ; have HQN := Lib.hid hqN; clear hqN; have HQZ := Lib.hid hqz; clear hqz
      go_wp2_with fail
      refine (Link_ok q me cost (Nd.fresh who) _ (Nd.Ok.fresh hw6) hme (fun h => HWM.out h) (by omega) hc2 HQ.out).mono ?_
      rintro e w5 ⟨rfl, hQ, hf⟩
      have h1 := HN.out.keep hf (fun h => HQN.out h.symm)
      have h3 := HF.out.trans' hf (fun i hi h => by have := HQZ.out; unfold OneB at h; omega)
      have hlr := Nd.lrn_start (s := s) (c := cost) hw6 (by rw [HSM.out]; exact hme) hc1
      have hok := (Nd.Ok.fresh hw6).link me cost (by omega) hc2
      rw [HSM.out] at hlr
      clear HN HF HQ hf
      have HN := Lib.hid h1; clear h1; have HF := Lib.hid h3; clear h3; have HQ := Lib.hid hQ; clear hQ; have HL := Lib.hid hlr; clear hlr; have HO := Lib.hid hok; clear hok
      go_wp2_with fail
      refine (Tell_any _ who s _ HN.out).mono ?_
      rintro e w6 ⟨v, rfl, hv, hf⟩
      have h1 := HN.out.keep hf (fun h => h)
      have hQ := HQ.out.keep hf (fun h => h)
      have h3 := HF.out.trans hf
      clear HN HF hf
      obtain ⟨a1, cap1, rfl, hrd, hbl, j1⟩ := ownsRow_rd hv
      clear j1
      have hrq : ∀ p, a1 = some p → ¬ p.block = q := fun p hp h => by have := hbl p hp; have := HQ.out.lt; omega
      clear hv hbl
      have HRQ := Lib.hid hrq; clear hrq HQ
      have HN := Lib.hid h1; clear h1; have HF := Lib.hid h3; clear h3; have HQ := Lib.hid hQ; clear hQ; have HRD := Lib.hid hrd; clear hrd
      go_wp2
      obtain ⟨wo, rfl⟩ : ∃ wo : World, wo = w6 := ⟨_, rfl⟩
      go_loopw [13] (fun i wr => LnRel s who cost a1 w w1.heap.size q i wr) (fun i _ => 6 - (intOf i).toNat)
      case atStart => exact ⟨0, _, by omega, rfl, HL.out, HO.out, HN.out, HQ.out, HRD.out, HF.out⟩
      case round =>
        clear HL HO HN HQ HRD HF
        obtain ⟨i, x, hi, rfl, hl, ho, h1, hQ, hrd, h3⟩ := hrel
        have HL := Lib.hid hl; clear hl; have HO := Lib.hid ho; clear ho; have HN := Lib.hid h1; clear h1; have HQ := Lib.hid hQ; clear hQ; have HRD := Lib.hid hrd; clear hrd; have HF := Lib.hid h3; clear h3
        by_cases hi6 : i < 6
        · obtain ⟨e0, e1, e2, e3, e4⟩ := tell_get s who i hi6
          obtain ⟨b0, o0, rfl, c0⟩ := HRD.out (i * 5) (by omega)
          obtain ⟨b1, o1, k1, c1⟩ := HRD.out (i * 5 + 1) (by omega)
          obtain ⟨b2, o2, k2, c2⟩ := HRD.out (i * 5 + 2) (by omega)
          obtain ⟨b3, o3, k3, c3⟩ := HRD.out (i * 5 + 3) (by omega)
          obtain ⟨b4, o4, k4, c4⟩ := HRD.out (i * 5 + 4) (by omega)
          cases k1; cases k2; cases k3; cases k4
          simp only [e0] at c0
          simp only [e1] at c1
          simp only [e2] at c2
          simp only [e3] at c3
          simp only [e4] at c4
          clear e0 e1 e2 e3 e4
          rw [← Nat.add_assoc] at c1 c2 c3 c4
          have hnx := Nd.lrn_next HL.out hw6 (by rw [HSM.out]; exact hme) (by rw [HSM.out]; exact HWM.out) hc1 hc2 hi6 HW.out
          obtain ⟨hn0, hn1⟩ := hnx
          have HN0 := Lib.hid hn0; clear hn0; have HN1 := Lib.hid hn1; clear hn1
          have hib : decide ((i : Int) < 6) = true := by simp; omega
          go_wp2_with fail
          refine (Hear_any q s.me who i (s.wS i) (s.wD i) x _ HO.out HQ.out).mono ?_
          rintro e w7 ⟨rfl, hQ, hf⟩
          have h1 := HN.out.keep hf (fun h => HQN.out h.symm)
          have hrd := HRD.out.keep hf (fun p hp h => HRQ.out p hp h)
          have h3 := HF.out.trans' hf (fun i hi h => by have := HQZ.out; unfold OneB at h; omega)
          have ho := HO.out.hearC s.me i (s.wS i) (s.wD i)
          rw [HN0.out]
          clear HN HF HQ HRD HO hf c0 c1 c2 c3 c4
          have HN := Lib.hid h1; clear h1; have HF := Lib.hid h3; clear h3; have HQ := Lib.hid hQ; clear hQ; have HRD := Lib.hid hrd; clear hrd; have HO := Lib.hid ho; clear ho
          go_wp2
          go_roundw
          case rel => exact ⟨i + 1, _, by omega, by go_num, HN1.out, HO.out, HN.out, HQ.out, HRD.out, HF.out⟩
          case measure => simp [intOf]; omega
        · have e6 : i = 6 := by omega
          have hl6 : Nd.Lrn s who cost 6 x := by rw [← e6]; exact HL.out
          have hib : decide ((i : Int) < 6) = false := by simp; omega
          clear HL e6
          have HL := Lib.hid hl6; clear hl6
          go_wp2
          clear hib HRD HO
          obtain ⟨wp, rfl⟩ : ∃ wp : World, wp = wr := ⟨_, rfl⟩
          go_loopw [14] (fun i wr => LeRel s x w w1.heap.size q i wr) (fun i _ => 6 - (intOf i).toNat)
          case atStart => exact ⟨0, by omega, rfl, HN.out, HQ.out, HF.out⟩
          case round =>
            clear HN HQ HF
            obtain ⟨j, hj, rfl, h1, hQ, h3⟩ := hrel
            have HN := Lib.hid h1; clear h1; have HQ := Lib.hid hQ; clear hQ; have HF := Lib.hid h3; clear h3
            by_cases hj6 : j < 6
            · go_wp2_with fail
              refine (Way_in _ j s _ hj6 HN.out).mono ?_
              rintro e w8 ⟨rfl, hf⟩
              have h1 := HN.out.keep hf (fun h => h)
              have hQ := HQ.out.keep hf (fun h => h)
              have h3 := HF.out.trans hf
              clear HN HF HQ hf
              have HN := Lib.hid h1; clear h1; have HF := Lib.hid h3; clear h3; have HQ := Lib.hid hQ; clear hQ
              have y1 := HW.out.lo j hj6
              have y2 := HW.out.hi j hj6
              by_cases hjw : j = who
              · have e1 : x.wS j = 0 := by rw [hjw]; exact HL.out.wS
                have e2 : x.wD j = 0 := by rw [hjw]; exact HL.out.wD
                have e3 : x.wH j = who := by rw [hjw]; exact HL.out.wH
                have hb : ((j : Int) == (who : Int)) = true := by simp; omega
                have E1 := Lib.hid e1; clear e1; have E2 := Lib.hid e2; clear e2; have E3 := Lib.hid e3; clear e3; have JW := Lib.hid hjw; clear hjw
                go_wp2_with fail
                refine (Way_in _ j x _ hj6 HQ.out).mono ?_
                rintro e w9 ⟨rfl, hf⟩
                have h1 := HN.out.keep hf (fun h => h)
                have hQ := HQ.out.keep hf (fun h => h)
                have h3 := HF.out.trans hf
                clear HN HF HQ hf
                have HN := Lib.hid h1; clear h1; have HF := Lib.hid h3; clear h3; have HQ := Lib.hid hQ; clear hQ
                rw [E1.out, E2.out, E3.out]
                go_wp2
                go_roundw
                case rel => exact ⟨j + 1, by omega, by go_num, (HN.out.alloc _).alloc _, (HQ.out.alloc _).alloc _, (HF.out.alloc _).alloc _⟩
                case measure => simp [intOf]; omega
              · have hb : ((j : Int) == (who : Int)) = false := by simp; omega
                have JW := Lib.hid hjw; clear hjw
                by_cases hd : s.wH j = -1 ∨ 200 ≤ s.wD j + cost
                · have e3 : x.wH j = -1 := HL.out.drop j (by omega) JW.out (by
                    rcases hd with h | h
                    · have := HW.out.drop j hj6 h; omega
                    · exact h)
                  have E3 := Lib.hid e3; clear e3
                  by_cases hh : s.wH j = -1
                  · have hb2 : (s.wH j == -1) = true := by simp [hh]
                    clear hd hh
                    go_wp2_with fail
                    refine (Way_in _ j x _ hj6 HQ.out).mono ?_
                    rintro e w9 ⟨rfl, hf⟩
                    have h1 := HN.out.keep hf (fun h => h)
                    have hQ := HQ.out.keep hf (fun h => h)
                    have h3 := HF.out.trans hf
                    clear HN HF HQ hf
                    have HN := Lib.hid h1; clear h1; have HF := Lib.hid h3; clear h3; have HQ := Lib.hid hQ; clear hQ
                    rw [E3.out]
                    go_wp2
                    go_roundw
                    case rel => exact ⟨j + 1, by omega, by go_num, (HN.out.alloc _).alloc _, (HQ.out.alloc _).alloc _, (HF.out.alloc _).alloc _⟩
                    case measure => simp [intOf]; omega
                  · have hb2 : (s.wH j == -1) = false := by simp [hh]
                    have hd2 : 200 ≤ s.wD j + cost := by
                      rcases hd with h | h
                      · exact absurd h hh
                      · exact h
                    clear hd hh
                    go_wp2_with fail
                    refine (Way_in _ j x _ hj6 HQ.out).mono ?_
                    rintro e w9 ⟨rfl, hf⟩
                    have h1 := HN.out.keep hf (fun h => h)
                    have hQ := HQ.out.keep hf (fun h => h)
                    have h3 := HF.out.trans hf
                    clear HN HF HQ hf
                    have HN := Lib.hid h1; clear h1; have HF := Lib.hid h3; clear h3; have HQ := Lib.hid hQ; clear hQ
                    rw [E3.out]
                    go_wp2
                    go_roundw
                    case rel => exact ⟨j + 1, by omega, by go_num, (HN.out.alloc _).alloc _, (HQ.out.alloc _).alloc _, (HF.out.alloc _).alloc _⟩
                    case measure => simp [intOf]; omega
                · have hh : s.wH j ≠ -1 := fun h => hd (.inl h)
                  have hd2 : s.wD j + cost < 200 := by
                    by_cases h : 200 ≤ s.wD j + cost
                    · exact absurd (.inr h) hd
                    · omega
                  have hb2 : (s.wH j == -1) = false := by simp [hh]
                  obtain ⟨e1, e2, e3⟩ := HL.out.way j (by omega) JW.out hd2
                  rw [HSM.out] at e3
                  clear hd hh
                  have E1 := Lib.hid e1; clear e1; have E2 := Lib.hid e2; clear e2; have E3 := Lib.hid e3; clear e3
                  go_wp2_with fail
                  refine (Way_in _ j x _ hj6 HQ.out).mono ?_
                  rintro e w9 ⟨rfl, hf⟩
                  have h1 := HN.out.keep hf (fun h => h)
                  have hQ := HQ.out.keep hf (fun h => h)
                  have h3 := HF.out.trans hf
                  clear HN HF HQ hf
                  have HN := Lib.hid h1; clear h1; have HF := Lib.hid h3; clear h3; have HQ := Lib.hid hQ; clear hQ
                  rw [E1.out, E2.out, E3.out]
                  go_wp2
                  go_roundw
                  case rel => exact ⟨j + 1, by omega, by go_num, (HN.out.alloc _).alloc _, (HQ.out.alloc _).alloc _, (HF.out.alloc _).alloc _⟩
                  case measure => simp [intOf]; omega
            · go_wp2
              go_ret
              exact ⟨rfl, HF.out⟩

set_option maxRecDepth 100000 in
set_option maxHeartbeats 2000000 in
theorem NodeLearns_early (me : Int) (a0 : Option Addr) (n c : Nat) (cost : Int) (w : World) (h : ¬ (0 ≤ me ∧ me < 6) ∨ ((0 ≤ me ∧ me < 6) ∧ 200 < n) ∨ ((0 ≤ me ∧ me < 6) ∧ n ≤ 200 ∧ cost < 1) ∨ ((0 ≤ me ∧ me < 6) ∧ n ≤ 200 ∧ 1 ≤ cost ∧ 15 < cost)) :
    Calls Try.prog 6 #[.int .i64 me, .slice a0 n c, .int .i64 cost] w (TrueFr w) := by
  rcases h with h | ⟨hm, h⟩ | ⟨hm, h, h2⟩ | ⟨hm, h, h2, h3⟩
  · have H := Lib.hid h; clear h
    go_enter Try.func6, Try.ntmps6
    go_wp2_with fail
    refine (nodeBegun_true _).mono ?_
    rintro e w1 ⟨rfl, hF⟩
    have HF := Lib.hid hF; clear hF
    go_wp2_with fail
    refine (New_no me _ H.out).mono ?_
    rintro e w2 ⟨rfl, rfl⟩
    go_wp2
    go_ret
    exact ⟨rfl, HF.out⟩
  all_goals
    obtain ⟨m, rfl⟩ := Int.eq_ofNat_of_zero_le hm.1
    go_enter Try.func6, Try.ntmps6
    go_wp2_with fail
    refine (nodeBegun_true _).mono ?_
    rintro e w1 ⟨rfl, hF⟩
    have HF := Lib.hid hF; clear hF
    go_wp2_with fail
    refine (New_yes m _ (by omega)).mono ?_
    rintro e w2 ⟨rfl, _, hF⟩
    have hF := HF.out.trans hF
    clear HF
    have HF := Lib.hid hF; clear hF
    go_wp2
    go_ret
    exact ⟨rfl, HF.out⟩

theorem NodeLearns_all (me : Int) (a1 : Option Addr) (n1 c1 : Nat) (X1 : Nat → Int) (cost : Int) (w : World) (hX : Rd w a1 (n1 * 7) X1) :
    Calls Try.prog 6 #[.int .i64 me, .slice a1 n1 c1, .int .i64 cost] w (TrueFr w) := by
  by_cases hm : 0 ≤ me ∧ me < 6
  · by_cases hn : 200 < n1
    · exact NodeLearns_early me a1 n1 c1 cost w (.inr (.inl ⟨hm, hn⟩))
    · by_cases h1 : cost < 1
      · exact NodeLearns_early me a1 n1 c1 cost w (.inr (.inr (.inl ⟨hm, by omega, h1⟩)))
      · by_cases h2 : 15 < cost
        · exact NodeLearns_early me a1 n1 c1 cost w (.inr (.inr (.inr ⟨hm, by omega, by omega, h2⟩)))
        · obtain ⟨m, rfl⟩ := Int.eq_ofNat_of_zero_le hm.1
          exact NodeLearns_main m a1 n1 c1 X1 cost w (by omega) (by omega) (by omega) (by omega) hX
  · exact NodeLearns_early me a1 n1 c1 cost w (.inl hm)
end Go.Proofs.Ytdpgbgapelgomaa
