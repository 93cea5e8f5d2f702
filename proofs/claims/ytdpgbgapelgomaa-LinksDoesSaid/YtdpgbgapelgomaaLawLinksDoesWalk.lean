/- The walk of LinksDoes. -/
import Derived.Test.YtdpgbgapelgomaaLk9
namespace Go.Proofs.Ytdpgbgapelgomaa
open Go.RowKit Go.Deep

theorem ofA_hit (C : Nat → Nat → Int) (a k : Nat) (ha : a < 6) (h : 0 < C a k) : ofA C a (k + 1) = ofA C a k ++ [k] := by
  unfold ofA
  rw [if_pos (by omega), if_pos (by omega), Int.toNat_natCast, ofL_hit C a k h]
theorem ofA_miss (C : Nat → Nat → Int) (a k : Nat) (ha : a < 6) (h : ¬ 0 < C a k) : ofA C a (k + 1) = ofA C a k := by
  unfold ofA
  rw [if_pos (by omega), if_pos (by omega), Int.toNat_natCast, ofL_miss C a k h]
theorem ofA_none (C : Nat → Nat → Int) (a : Int) (k : Nat) (ha : ¬ (0 ≤ a ∧ a < 6)) : ofA C a k = [] := by
  unfold ofA
  rw [if_neg ha]

def DoRel (C : Nat → Nat → Int) (a : Int) (w w2 : World) (L M : Nat) (u v i : Value) (wr : World) : Prop :=
  ∃ k : Nat, k ≤ 6 ∧ i = .int .i64 k ∧ Sl wr w2.heap.size u (ints (ofA C a k)) ∧ SlL wr w2.heap.size v C (allP C k) ∧ CAt wr L 103 C ∧ CAt wr M 100 C ∧ Fr NoB w wr
def DoRelI (C : Nat → Nat → Int) (a : Int) (k : Nat) (w w2 : World) (L M : Nat) (u v i : Value) (wr : World) : Prop :=
  ∃ j : Nat, k < j ∧ j ≤ 6 ∧ i = .int .i64 j ∧ Sl wr w2.heap.size u (ints (ofA C a (k + 1))) ∧ SlL wr w2.heap.size v C (allP C k ++ rowP C k j) ∧ CAt wr L 103 C ∧ CAt wr M 100 C ∧ Fr NoB w wr
/-- Behind the look at one neighbour. -/
def CutO (C : Nat → Nat → Int) (a : Int) (k : Nat) (w w2 : World) (L M : Nat) (u v : Value) (wr : World) : Prop :=
  Sl wr w2.heap.size u (ints (ofA C a (k + 1))) ∧ SlL wr w2.heap.size v C (allP C k) ∧ CAt wr L 103 C ∧ CAt wr M 100 C ∧ Fr NoB w wr ∧ w2.heap.size ≤ wr.heap.size

def InRel (C : Nat → Nat → Int) (a : Int) (k : Nat) (w w2 : World) (L M g : Nat) (u v i : Value) (wr : World) : Prop :=
  ∃ j : Nat, k < j ∧ j ≤ 6 ∧ g = 6 - j ∧ i = .int .i64 j ∧ Sl wr w2.heap.size u (ints (ofA C a (k + 1))) ∧ SlL wr w2.heap.size v C (allP C k ++ rowP C k j) ∧ CAt wr L 103 C ∧ CAt wr M 100 C ∧ Fr NoB w wr ∧ w2.heap.size ≤ wr.heap.size
def bothB (a b : Int) : Bool := decide ((0 ≤ a ∧ a < 6) ∧ 0 ≤ b ∧ b < 6)
def CutN (a b : Int) (w : World) (s : Value) (wx : World) : Prop := s = .bool (bothB a b) ∧ w = wx
def CutV (C : Nat → Nat → Int) (a b : Int) (w : World) (s : Value) (wx : World) : Prop := s = .int .i64 (costV C a b) ∧ w = wx
def EndRel (n : Nat) (w : World) (g : Nat) (i : Value) (wr : World) : Prop := ∃ k : Nat, k ≤ n ∧ g = n - k ∧ i = .int .i64 k ∧ ∃ j, wr = w.drewN j
def hitB (C : Nat → Nat → Int) (a : Int) (k : Nat) : Bool := decide ((0 ≤ a ∧ a < 6) ∧ 0 < C a.toNat k)
def CutH (C : Nat → Nat → Int) (a : Int) (k : Nat) (w : World) (s : Value) (wx : World) : Prop := s = .bool (hitB C a k) ∧ w = wx
def DoRelG (C : Nat → Nat → Int) (a : Int) (w w2 : World) (L M g : Nat) (u v i : Value) (wr : World) : Prop :=
  ∃ k : Nat, k ≤ 6 ∧ g = 6 - k ∧ i = .int .i64 k ∧ Sl wr w2.heap.size u (ints (ofA C a k)) ∧ SlL wr w2.heap.size v C (allP C k) ∧ CAt wr L 103 C ∧ CAt wr M 100 C ∧ Fr NoB w wr ∧ w2.heap.size ≤ wr.heap.size

set_option maxRecDepth 100000 in
set_option maxHeartbeats 8000000 in
theorem LinksDoes_main (a0 : Option Addr) (n c : Nat) (X : Nat → Int) (a b : Int) (w : World) (hn : n ≤ 200) (hX : Rd w a0 (n * 3) X) :
    Calls Try.prog 3 #[.slice a0 n c, .int .i64 a, .int .i64 b] w (TrueFr w) := by
  have HX := Lib.hid hX; clear hX
  go_enter Try.func3, Try.ntmps3
  go_wp2_with fail
  refine (linksBegun_true _).mono ?_
  rintro e w1 ⟨rfl, hF⟩
  have hX := HX.out.keep hF (fun _ _ h => h)
  have HX := Lib.hid hX; clear hX
  have HF := Lib.hid hF; clear hF
  go_wp2_with fail
  refine (Maps_any a0 n c X _ (by omega) HX.out).mono ?_
  rintro e w2 ⟨L, M, rfl, _, _, _, hL, hM, hF⟩
  have HF := Lib.hid (HF.out.trans hF); clear hF
  have hc := CostOK.maps X n
  generalize mapsC X n = C at *
  have HH := Lib.hid hc; clear hc
  have HL := Lib.hid hL
  have HM := Lib.hid hM
  have HL0 := Lib.hid hL; clear hL
  have HM0 := Lib.hid hM; clear hM
  have HS2 := Lib.hid HF.out.size
  go_wp2_with fail
  refine (Node_any a _).mono ?_; rintro e w' ⟨rfl, rfl⟩
  go_wp2_with fail
  refine (RNode_any a _).mono ?_; rintro e w' ⟨rfl, rfl⟩
  go_wp2_with fail
  refine (Far_any L a C _ HL.out HH.out).mono ?_
  rintro e w3 ⟨g1, rfl, hg1, hr1, hF⟩
  have HL := Lib.hid (hF.row HL.out (fun h => h))
  have HM := Lib.hid (hF.row HM.out (fun h => h))
  have HF := Lib.hid (HF.out.trans hF)
  have HZ := Lib.hid hF.size; clear hF hg1
  have HR1 := Lib.hid hr1; clear hr1
  go_wp2_with fail
  refine (MFar M a C _ HM.out HH.out).mono ?_
  rintro e w4 ⟨g2, rfl, hg2, hr2, hF⟩
  have HL := Lib.hid (hF.row HL.out (fun h => h))
  have HM := Lib.hid (hF.row HM.out (fun h => h))
  have HR1 := Lib.hid (hF.row HR1.out (fun h => h))
  have HF := Lib.hid (HF.out.trans hF)
  have HZ := Lib.hid (Nat.le_trans HZ.out hF.size); clear hF hg2
  have HR2 := Lib.hid hr2; clear hr2
  go_wp2_with fail
  refine (SameInts_any (some ⟨g1, 0, none⟩) (some ⟨g2, 0, none⟩) 6 6 6 6 _ _ _ (by omega) (by omega) (Rd.row HR1.out) (Rd.row HR2.out)).mono ?_
  rintro e w5 ⟨r, rfl, hr, jd, rfl⟩
  obtain rfl : r = true := hr.2 ⟨rfl, fun _ _ => rfl⟩
  clear hr HR1 HR2
  go_wp2
  go_loopg [11, 12, 13] 6 (fun g u v i wr => DoRelG C a w w2 L M g u v i wr)
  case atStart => exact ⟨0, by omega, rfl, rfl, by unfold ofA; split <;> exact Sl.nil _ _, World.ownsRow_nil _ _ _ _, HL.out, HM.out, HF.out.drewN _, HZ.out⟩
  case round =>
    clear HL HM HF HZ
    obtain ⟨k, hk, hgk, rfl, hu, hv, hL, hM, hF, hZ⟩ := hrel
    have HG := Lib.hid hgk; clear hgk
    have HU := Lib.hid hu; clear hu
    have HV := Lib.hid hv; clear hv
    have HL := Lib.hid hL; clear hL
    have HM := Lib.hid hM; clear hM
    have HF := Lib.hid hF; clear hF
    have HZ := Lib.hid hZ; clear hZ
    by_cases hk6 : k < 6
    · have hkb : decide ((k : Int) < 6) = true := by simp; omega
      go_upto_region 14 with fail
      go_cut [62] (fun s wx => CutH C a k wr s wx)
      case first =>
        by_cases hn : 0 ≤ a ∧ a < 6
        · obtain ⟨x, rfl⟩ := Int.eq_ofNat_of_zero_le hn.1
          have hx6 : x < 6 := by omega
          clear hn
          have cM := CAt.cell HM.out hx6 hk6
          have hh : hitB C (x : Int) k = decide (0 < C x k) := by unfold hitB; rw [Int.toNat_natCast]; exact decide_eq_decide.2 ⟨fun h => h.2, fun h => ⟨by omega, h⟩⟩
          have HHB := Lib.hid hh; clear hh
          go_wp2_with fail
          refine (RNode_yes _ _ (by omega) (by omega)).mono ?_; rintro e w' ⟨rfl, rfl⟩
          go_wp2_with fail
          all_goals (go_meet; exact ⟨by rw [HHB.out], rfl⟩)
        · have hh : hitB C a k = false := by unfold hitB; simp only [hn, false_and, decide_false]
          have HHB := Lib.hid hh; clear hh
          have HN := Lib.hid hn; clear hn
          go_wp2_with fail
          refine (RNode_no _ _ HN.out).mono ?_; rintro e w' ⟨rfl, rfl⟩
          go_wp2_with fail
          all_goals (go_meet; exact ⟨by rw [HHB.out], rfl⟩)
      case rest =>
        obtain ⟨rfl, rfl⟩ := hcut
        go_upto_if 62 with fail
        go_cut [11] (fun s wx => CutO C a k w w2 L M s u12 wx)
        case first =>
          cases hh : hitB C a k
          · have he : ofA C a (k + 1) = ofA C a k := by
              by_cases hn : 0 ≤ a ∧ a < 6
              · obtain ⟨x, rfl⟩ := Int.eq_ofNat_of_zero_le hn.1
                refine ofA_miss C x k (by omega) (fun h => ?_)
                simp only [hitB, Int.toNat_natCast, decide_eq_false_iff_not] at hh
                exact hh ⟨hn, h⟩
              · rw [ofA_none _ _ _ hn, ofA_none _ _ _ hn]
            have HE := Lib.hid he; clear he hh
            go_wp2_with fail
            go_meet
            exact ⟨by rw [HE.out]; exact HU.out, HV.out, HL.out, HM.out, HF.out, HZ.out⟩
          · have he : ints (ofA C a (k + 1)) = ints (ofA C a k) ++ [(k : Int)] := by
              simp only [hitB, decide_eq_true_eq] at hh
              obtain ⟨x, rfl⟩ := Int.eq_ofNat_of_zero_le hh.1.1
              rw [ofA_hit C x k (by omega) (by have := hh.2; rwa [Int.toNat_natCast] at this)]
              simp [ints]
            have HE := Lib.hid he; clear he hh
            go_wp2_with (at_builtin; refine app_int' rfl (.tmp 63) (.tmp 65) 30 rfl Try.underlying30 Try.info3 w2.heap.size u11 (ints (ofA C a k)) rfl (HU.out.alloc _) ⟨wr.heap.size, 0, none⟩ k rfl (by simp) ?h1 ?h2 ?_)
            case h1 => have := ofA_le C a k; simp [ints]; omega
            case h2 => have := HZ.out; simp; omega
            · intro v' w6 h1 h2
              have q1 : SlL w6 w2.heap.size u12 C (allP C k) := own_keep (World.ownsRow.alloc HV.out _) h2 (own_apart HV.out HU.out (by decide))
              have hLz := World.rowIs.lt HL0.out
              have hMz := World.rowIs.lt HM0.out
              have hown := World.ownsRow.lt HU.out
              have q2 : CAt w6 L 103 C := h2.row (World.rowIs.alloc HL.out _) (fun h => by have := (hown _ h).1; omega)
              have q3 : CAt w6 M 100 C := h2.row (World.rowIs.alloc HM.out _) (fun h => by have := (hown _ h).1; omega)
              have q4 : Fr NoB w w6 := (HF.out.alloc _).ownB (World.ownsRow.alloc HU.out _) HS2.out h2
              have q5 : w2.heap.size ≤ w6.heap.size := by have := h2.size; have := HZ.out; simp at *; omega
              clear h2 hLz hMz hown
              have H1 := Lib.hid h1; clear h1
              have Q1 := Lib.hid q1; clear q1
              have Q2 := Lib.hid q2; clear q2
              have Q3 := Lib.hid q3; clear q3
              have Q4 := Lib.hid q4; clear q4
              have Q5 := Lib.hid q5; clear q5
              go_wp2_with fail
              go_meet
              exact ⟨by rw [HE.out]; exact H1.out, Q1.out, Q2.out, Q3.out, Q4.out, Q5.out⟩
        case rest =>
          clear HU HV HL HM HF HZ
          obtain ⟨hu, hv, hL, hM, hF, hZ⟩ := hcut
          have HU := Lib.hid hu; clear hu
          have HV := Lib.hid hv; clear hv
          have HL := Lib.hid hL; clear hL
          have HM := Lib.hid hM; clear hM
          have HF := Lib.hid hF; clear hF
          have HZ := Lib.hid hZ; clear hZ
          go_wp2
          go_loopg [12, 14] (6 - (k + 1)) (fun g v i wr => InRel C a k w w2 L M g u11 v i wr)
          case atStart => exact ⟨k + 1, by omega, by omega, rfl, by go_num, HU.out, by rw [rowP_low, List.append_nil]; exact HV.out, HL.out, HM.out, HF.out, HZ.out⟩
          case round =>
            clear HU HV HL HM HF HZ
            obtain ⟨j, hkj, hj, hgj, rfl, hu, hv, hL, hM, hF, hZ⟩ := hrel
            have HJ := Lib.hid hgj; clear hgj
            have HU := Lib.hid hu; clear hu
            have HV := Lib.hid hv; clear hv
            have HL := Lib.hid hL; clear hL
            have HM := Lib.hid hM; clear hM
            have HF := Lib.hid hF; clear hF
            have HZ := Lib.hid hZ; clear hZ
            by_cases hj6 : j < 6
            · have cM := CAt.cell HM.out hk6 hj6
              by_cases hp : 0 < C k j
              · have hP := rowP_hit C k j hp hkj
                have HP := Lib.hid hP; clear hP
                go_wp2_with (at_builtin; refine app_own rfl (.tmp 81) (.tmp 92) 22 34 3 24 (.agg #[.int .i64 0, .int .i64 0, .int .i64 0]) rfl Try.underlying22 Try.info34 rfl (by omega) w2.heap.size u12 (allP C k ++ rowP C k j).length _ rfl (World.ownsRow.alloc HV.out _) ⟨wr.heap.size, 0, none⟩ 1 1 [.int .i64 k, .int .i64 j, .int .i64 (C k j)] rfl rfl ?h1 ?h2 ?h3 (by omega) ?h4 ?_)
                case h1 =>
                  intro i u hi
                  match i, hi with
                  | 0, hi => simp at hi; subst hi; simp [Addr.add]
                  | 1, hi => simp at hi; subst hi; simp [Addr.add]
                  | 2, hi => simp at hi; subst hi; simp [Addr.add]
                case h2 => intro u hu; simp at hu; rcases hu with rfl | rfl | rfl <;> rfl
                case h3 => have := allP_le C k; have := rowP_le C k j; simp only [List.length_append]; omega
                case h4 => have := HZ.out; simp; omega
                · intro v' w6 h1 h2
                  have q1 : Sl w6 w2.heap.size u11 (ints (ofA C a (k + 1))) := own_keep (HU.out.alloc _) h2 (own_apart HU.out HV.out (by decide))
                  have hLz := World.rowIs.lt HL0.out
                  have hMz := World.rowIs.lt HM0.out
                  have hown := World.ownsRow.lt HV.out
                  have q2 : CAt w6 L 103 C := h2.row (World.rowIs.alloc HL.out _) (fun h => by have := (hown _ h).1; omega)
                  have q3 : CAt w6 M 100 C := h2.row (World.rowIs.alloc HM.out _) (fun h => by have := (hown _ h).1; omega)
                  have q4 : Fr NoB w w6 := (HF.out.alloc _).ownB (World.ownsRow.alloc HV.out _) HS2.out h2
                  have q5 : w2.heap.size ≤ w6.heap.size := by have := h2.size; have := HZ.out; simp at *; omega
                  clear h2 hLz hMz hown
                  have H1 := Lib.hid h1; clear h1
                  have Q1 := Lib.hid q1; clear q1
                  have Q2 := Lib.hid q2; clear q2
                  have Q3 := Lib.hid q3; clear q3
                  have Q4 := Lib.hid q4; clear q4
                  have Q5 := Lib.hid q5; clear q5
                  go_wp2
                  go_roundg (6 - (j + 1))
                  case measure => have := HJ.out; omega
                  case rel => exact ⟨j + 1, by omega, by omega, rfl, by go_num, Q1.out, by
                    rw [HP.out, ← List.append_assoc]
                    unfold SlL
                    rw [flatC_snoc, List.length_append, List.length_append, List.map_append]
                    exact H1.out, Q2.out, Q3.out, Q4.out, Q5.out⟩
              · have hP := rowP_miss C k j (fun h => hp h.1)
                have HP := Lib.hid hP; clear hP
                go_wp2
                go_roundg (6 - (j + 1))
                case measure => have := HJ.out; omega
                case rel => exact ⟨j + 1, by omega, by omega, rfl, by go_num, HU.out, by rw [HP.out]; exact HV.out, HL.out, HM.out, HF.out, HZ.out⟩
            · have e6 : allP C k ++ rowP C k j = allP C (k + 1) := by rw [show j = 6 from by omega, allP]
              have HE := Lib.hid e6; clear e6
              go_wp2
              go_roundg (6 - (k + 1))
              case measure => have := HG.out; omega
              case rel => exact ⟨k + 1, by omega, rfl, by go_num, HU.out, by rw [← HE.out]; exact HV.out, HL.out, HM.out, HF.out, HZ.out⟩
    · have e6 : k = 6 := by omega
      have hu6 : Sl wr w2.heap.size u11 (ints (ofA C a 6)) := by rw [← e6]; exact HU.out
      have hv6 : SlL wr w2.heap.size u12 C (allP C 6) := by rw [← e6]; exact HV.out
      have HU := Lib.hid hu6; clear hu6
      have HV := Lib.hid hv6; clear hv6 e6 HG
      have hb1 : decide ((k : Int) < 6) = false := by simp; omega
      go_upto_region 21 with fail
      go_cut [99] (fun s wx => CutN a b wr s wx)
      case first =>
        by_cases hn : 0 ≤ a ∧ a < 6
        · by_cases hm : 0 ≤ b ∧ b < 6
          · have hh : bothB a b = true := by simp [bothB, hn, hm]
            have HB := Lib.hid hh; clear hh
            go_wp2_with fail
            refine (RNode_yes _ _ hn.1 hn.2).mono ?_; rintro e w' ⟨rfl, rfl⟩
            go_wp2_with fail
            refine (RNode_yes _ _ hm.1 hm.2).mono ?_; rintro e w' ⟨rfl, rfl⟩
            go_wp2_with fail
            all_goals (go_meet; exact ⟨by rw [HB.out], rfl⟩)
          · have hh : bothB a b = false := by simp only [bothB, hm, and_false, decide_false]
            have HB := Lib.hid hh; clear hh
            have HM2 := Lib.hid hm; clear hm
            go_wp2_with fail
            refine (RNode_yes _ _ hn.1 hn.2).mono ?_; rintro e w' ⟨rfl, rfl⟩
            go_wp2_with fail
            refine (RNode_no _ _ HM2.out).mono ?_; rintro e w' ⟨rfl, rfl⟩
            go_wp2_with fail
            all_goals (go_meet; exact ⟨by rw [HB.out], rfl⟩)
        · have hh : bothB a b = false := by simp only [bothB, hn, false_and, decide_false]
          have HB := Lib.hid hh; clear hh
          have HN := Lib.hid hn; clear hn
          go_wp2_with fail
          refine (RNode_no _ _ HN.out).mono ?_; rintro e w' ⟨rfl, rfl⟩
          go_wp2_with fail
          all_goals (go_meet; exact ⟨by rw [HB.out], rfl⟩)
      case rest =>
        obtain ⟨rfl, rfl⟩ := hcut
        go_upto_if 99 with fail
        go_cut [10] (fun s wx => CutV C a b wr s wx)
        case first =>
          cases hh : bothB a b
          · have hcv : costV C a b = 0 := by
              simp only [bothB, decide_eq_false_iff_not] at hh
              unfold costV
              rw [if_neg (fun h => hh ⟨⟨h.1, h.2.1⟩, h.2.2⟩)]
            have HCV := Lib.hid hcv; clear hcv hh
            go_wp2_with fail
            go_meet
            exact ⟨by rw [HCV.out], rfl⟩
          · simp only [bothB, decide_eq_true_eq] at hh
            obtain ⟨⟨h1, h2⟩, h3, h4⟩ := hh
            have hcv : costV C a b = C a.toNat b.toNat := by unfold costV; rw [if_pos ⟨h1, h2, h3, h4⟩]
            obtain ⟨x, rfl⟩ := Int.eq_ofNat_of_zero_le h1
            obtain ⟨y, rfl⟩ := Int.eq_ofNat_of_zero_le h3
            have cM := CAt.cell HM.out (x := x) (y := y) (by omega) (by omega)
            simp only [Int.toNat_natCast] at hcv
            have HCV := Lib.hid hcv; clear hcv
            go_wp2_with fail
            go_meet
            exact ⟨by rw [HCV.out], rfl⟩
        case rest =>
          obtain ⟨rfl, rfl⟩ := hcut
          go_wp2_with fail
          refine (List_any L C _ HL.out).mono ?_
          rintro e w6 ⟨al, rfl, hrl, hbl, hF⟩
          have HL := Lib.hid (hF.row HL.out (fun h => h))
          have HU := Lib.hid (own_keep HU.out hF (fun _ _ h => h))
          have HV := Lib.hid (own_keep HV.out hF (fun _ _ h => h))
          have HF := Lib.hid (HF.out.trans hF); clear hF hbl
          have HR := Lib.hid hrl; clear hrl
          go_wp2_with fail
          refine (Cost_any L a b C _ HL.out).mono ?_; rintro e w7 ⟨rfl, rfl⟩
          go_wp2_with fail
          refine (Of_any L a C _ HL.out).mono ?_
          rintro e w7 ⟨vo, rfl, hvo, hF⟩
          have HU := Lib.hid (own_keep HU.out hF (fun _ _ h => h))
          have HV := Lib.hid (own_keep HV.out hF (fun _ _ h => h))
          have HR := Lib.hid (HR.out.keep hF (fun _ _ h => h))
          have HF := Lib.hid (HF.out.trans hF); clear hF
          obtain ⟨ao, co, rfl, hro, j0⟩ := hvo.rd
          clear j0
          obtain ⟨au, cu, eu, hru, j1⟩ := ownsRow_rd HU.out
          obtain ⟨av, cv, ev, hrv, j2⟩ := ownsRow_rd HV.out
          clear j1 j2
          subst eu
          subst ev
          rw [Nat.mul_one] at hru
          clear hvo
          have HRV := Lib.hid hrv; clear hrv
          have HRU := Lib.hid hru; clear hru
          have HRO := Lib.hid hro; clear hro
          go_wp2_with fail
          have hle1 : (ints (ofA C a 6)).length ≤ 6 := by have := ofA_le C a 6; simpa [ints] using this
          have hle2 := allP_le C 6
          refine (SameInts_any ao au _ _ co cu _ _ _ (by omega) (by omega) HRO.out HRU.out).mono ?_
          rintro e w8 ⟨r, rfl, hr, jd, rfl⟩
          obtain rfl : r = true := hr.2 ⟨rfl, fun _ _ => rfl⟩
          clear hr HRO HRU
          go_wp2
          go_loopg [16] (allP C 6).length (fun g i wr => EndRel (allP C 6).length w7 g i wr)
          case atStart => exact ⟨0, by omega, rfl, rfl, _, rfl⟩
          case round =>
            have HF0 := HF
            obtain ⟨q, hq, hg, rfl, jd2, rfl⟩ := hrel
            have HG := Lib.hid hg; clear hg
            by_cases hql : q < (allP C 6).length
            · obtain ⟨b1, o1, rfl, c1⟩ := HR.out (q * 3) (by omega)
              obtain ⟨b2, o2, e2, c2⟩ := HR.out (q * 3 + 1) (by omega)
              obtain ⟨b3, o3, e3, c3⟩ := HR.out (q * 3 + 2) (by omega)
              cases e2; cases e3
              obtain ⟨d1, p1, rfl, x1⟩ := HRV.out (q * 3) (by omega)
              obtain ⟨d2, p2, e2, x2⟩ := HRV.out (q * 3 + 1) (by omega)
              obtain ⟨d3, p3, e3, x3⟩ := HRV.out (q * 3 + 2) (by omega)
              cases e2; cases e3
              rw [← Nat.add_assoc] at c2 c3 x2 x3
              generalize (flatC C (allP C 6)).getD (q * 3) 0 = y1 at *
              generalize (flatC C (allP C 6)).getD (q * 3 + 1) 0 = y2 at *
              generalize (flatC C (allP C 6)).getD (q * 3 + 2) 0 = y3 at *
              clear HR HRV HL HM HU HV
              go_upto_region 29 with fail
              go_quiet (fail)
              go_wp2_with fail
              go_roundg ((allP C 6).length - (q + 1))
              case measure => have := HG.out; omega
              case rel => exact ⟨q + 1, by omega, rfl, by go_num, _, rfl⟩
            · go_wp2
              go_ret
              exact ⟨rfl, (HF0.out.drewN _)⟩

set_option maxRecDepth 100000 in
set_option maxHeartbeats 2000000 in
theorem LinksDoes_early (a0 : Option Addr) (n c : Nat) (a b : Int) (w : World) (h : 200 < n) :
    Calls Try.prog 3 #[.slice a0 n c, .int .i64 a, .int .i64 b] w (TrueFr w) := by
  go_enter Try.func3, Try.ntmps3
  go_wp2_with fail
  refine (linksBegun_true _).mono ?_
  rintro e w1 ⟨rfl, hF⟩
  have HF := Lib.hid hF; clear hF
  go_wp2
  go_ret
  exact ⟨rfl, HF.out⟩

theorem LinksDoes_all (a0 : Option Addr) (n c : Nat) (X : Nat → Int) (a b : Int) (w : World) (hX : Rd w a0 (n * 3) X) :
    Calls Try.prog 3 #[.slice a0 n c, .int .i64 a, .int .i64 b] w (TrueFr w) := by
  by_cases hn : 200 < n
  · exact LinksDoes_early a0 n c a b w hn
  · exact LinksDoes_main a0 n c X a b w (by omega) hX
end Go.Proofs.Ytdpgbgapelgomaa
