/- The walk of LinksFar: it returns true; nothing that was there has turned. -/
import Derived.Test.YtdpgbgapelgomaaLk8
namespace Go.Proofs.Ytdpgbgapelgomaa
open Go.RowKit Go.Deep

theorem index6_0 (f : Nat → Int) (w : World) : (Instr.index 32 (agg6 f) (.int .i64 0)).run Try.prog w = .ok (.int .i64 (f 0)) w := by kernel_rfl
theorem index6_1 (f : Nat → Int) (w : World) : (Instr.index 32 (agg6 f) (.int .i64 1)).run Try.prog w = .ok (.int .i64 (f 1)) w := by kernel_rfl
theorem index6_2 (f : Nat → Int) (w : World) : (Instr.index 32 (agg6 f) (.int .i64 2)).run Try.prog w = .ok (.int .i64 (f 2)) w := by kernel_rfl
theorem index6_3 (f : Nat → Int) (w : World) : (Instr.index 32 (agg6 f) (.int .i64 3)).run Try.prog w = .ok (.int .i64 (f 3)) w := by kernel_rfl
theorem index6_4 (f : Nat → Int) (w : World) : (Instr.index 32 (agg6 f) (.int .i64 4)).run Try.prog w = .ok (.int .i64 (f 4)) w := by kernel_rfl
theorem index6_5 (f : Nat → Int) (w : World) : (Instr.index 32 (agg6 f) (.int .i64 5)).run Try.prog w = .ok (.int .i64 (f 5)) w := by kernel_rfl
theorem index6 (n : Nat) (hn : n < 6) (f : Nat → Int) (w : World) : (Instr.index 32 (agg6 f) (.int .i64 n)).run Try.prog w = .ok (.int .i64 (f n)) w := by
  match n, hn with
  | 0, _ => exact index6_0 f w
  | 1, _ => exact index6_1 f w
  | 2, _ => exact index6_2 f w
  | 3, _ => exact index6_3 f w
  | 4, _ => exact index6_4 f w
  | 5, _ => exact index6_5 f w

/-- Is it led by one of the first k neighbours? -/
def ledK (C : Nat → Nat → Int) (a b k : Nat) : Bool := ((ofL C a 6).take k).any (fun u => C a u + Lk.far C u b == Lk.far C a b)
theorem ledK_next (C : Nat → Nat → Int) (a b k : Nat) (hk : k < (ofL C a 6).length) : ledK C a b (k + 1) = (ledK C a b k || (C a (ofL C a 6)[k] + Lk.far C ((ofL C a 6)[k] : Nat) b == Lk.far C a b)) := by
  unfold ledK
  rw [List.take_succ_eq_append_getElem hk, List.any_append]
  simp
theorem ledK_end {C : Nat → Nat → Int} (hc : Lk.CostOK C) {a b : Nat} (ha : a < 6) (hb : b < 6) (hab : a ≠ b) (h : Lk.far C a b < 200) : ledK C a b (ofL C a 6).length = true := by
  obtain ⟨u, hu, h1, h2⟩ := Lk.lead hc (f := fun s => Lk.far C s) (fun s _ => Lk.far_sol hc s) a b ha hb hab h
  unfold ledK
  rw [List.take_length, List.any_eq_true]
  exact ⟨u, (mem_ofL C a u).2 ⟨hu, h1⟩, by simpa using h2⟩

def LedRel (C : Nat → Nat → Int) (a b : Nat) (w : World) (L base : Nat) (u p i : Value) (wr : World) : Prop :=
  ∃ k : Nat, k ≤ (ofL C a 6).length ∧ i = .int .i64 k ∧ p = .bool (ledK C a b k) ∧ CAt wr L 103 C ∧ Sl wr base u (ints (ofL C a 6)) ∧ Fr NoB w wr

def CutA (C : Nat → Nat → Int) (a b d : Nat) (w : World) (L : Nat) (p q r : Value) (wx : World) : Prop :=
  p = .int .i64 (Lk.far C a b) ∧ q = .int .i64 (Lk.far C b d) ∧ r = .int .i64 (Lk.far C a d) ∧ CAt wx L 103 C ∧ Fr NoB w wx

def CutB (C : Nat → Nat → Int) (w : World) (L : Nat) (p : Value) (wx : World) : Prop := p = .bool false ∧ CAt wx L 103 C ∧ Fr NoB w wx

set_option maxRecDepth 100000 in
set_option maxHeartbeats 8000000 in
/-- The main way: three nodes. -/
theorem LinksFar_main (a0 : Option Addr) (n c : Nat) (X : Nat → Int) (a b d : Nat) (w : World) (hn : n ≤ 200) (hX : Rd w a0 (n * 3) X) (ha : a < 6) (hb : b < 6) (hd : d < 6) :
    Calls Try.prog 4 #[.slice a0 n c, .int .i64 a, .int .i64 b, .int .i64 d] w (TrueFr w) := by
  have HX := Lib.hid hX; clear hX
  go_enter Try.func4, Try.ntmps4
  go_wp2_with fail
  refine (linksBegun_true _).mono ?_
  rintro e w1 ⟨rfl, hF⟩
  have hX := HX.out.keep hF (fun _ _ h => h)
  have HX := Lib.hid hX; clear hX
  have HF := Lib.hid hF; clear hF
  go_wp2_with fail
  refine (RNode_yes _ _ (by omega) (by omega)).mono ?_; rintro e w' ⟨rfl, rfl⟩
  go_wp2_with fail
  refine (RNode_yes _ _ (by omega) (by omega)).mono ?_; rintro e w' ⟨rfl, rfl⟩
  go_wp2_with fail
  refine (RNode_yes _ _ (by omega) (by omega)).mono ?_; rintro e w' ⟨rfl, rfl⟩
  go_wp2_with fail
  refine (Maps_any a0 n c X _ (by omega) HX.out).mono ?_
  rintro e w2 ⟨L, M, rfl, hL1, _, _, hL, _, hF⟩
  have HF := Lib.hid (HF.out.trans hF); clear hF
  have hc := CostOK.maps X n
  have hL1 : L ≥ 0 := Nat.zero_le _
  generalize mapsC X n = C at *
  have HH := Lib.hid hc; clear hc
  have HL := Lib.hid hL; clear hL hL1
  have hix := index6
  have i1 := hix a ha
  have i2 := hix b hb
  have i3 := hix d hd
  clear hix
  go_upto_region 6 with fail
  go_cut [12, 13, 14] (fun s12 s13 s14 wx => CutA C a b d w L s12 s13 s14 wx)
  case first =>
    go_region_held3 (fun _ => True) (first | exact trivial)
      (first | (go_at_call 26; (with_reducible refine (Lfar L _ C w5 hL5 HH.out).mono ?_); rintro e w6 ⟨rfl, hF6⟩; have hL6 := hF6.row hL5 (fun h => h)) | (go_at_call 26; (with_reducible refine (Lfar L _ C w4 hL4 HH.out).mono ?_); rintro e w5 ⟨rfl, hF5⟩; have hL5 : CAt w5 L 103 C := hF5.row hL4 (fun h => h)) | (go_at_call 26; refine (Lfar L _ C _ (by exact HL.out) HH.out).mono ?_; rintro e w4 ⟨rfl, hF4⟩; have hL4 : CAt w4 L 103 C := hF4.row (by exact HL.out) (fun h => h)))
    all_goals (go_wp2_with fail; go_meet; exact ⟨rfl, rfl, rfl, hL6, ((HF.out.drew.trans hF4).trans hF5).trans hF6⟩)
  case rest =>
    clear HF HL
    obtain ⟨rfl, rfl, rfl, hL, hF⟩ := hcut
    have HL := Lib.hid hL; clear hL
    have HF := Lib.hid hF; clear hF
    have hS := fun s : Int => Lk.far_sol HH.out s
    have hback := Lk.back HH.out (f := fun s => Lk.far C s) (fun s _ => hS s) a b ha hb
    have hself := (hS a).src a ha rfl
    have x1 := (hS a).lo b hb
    have x2 := (hS a).hi b hb
    have y1 := (hS b).lo d hd
    have y2 := (hS b).hi d hd
    have z2 := (hS a).hi d hd
    have htri : Lk.far C a b + Lk.far C b d < 200 → Lk.far C a d ≤ Lk.far C a b + Lk.far C b d := Lk.tri hb (hS a) (hS b) d hd
    have hlk := Lk.link_le (d := Lk.far C a) ha (hS a) b hb
    have hend := ledK_end HH.out ha hb
    have e1 : (Lk.far C (a : Int) b != Lk.far C (b : Int) a) = false := by simpa using hback
    have e2 : (Lk.far C (a : Int) a != 0) = false := by simpa using hself
    have HT := Lib.hid htri; clear htri
    have HK := Lib.hid hlk; clear hlk
    have HE := Lib.hid hend; clear hend
    clear hback hself hS
    have e3 : ¬ ((if 200 < Lk.far C a b + Lk.far C b d then (200 : Int) else Lk.far C a b + Lk.far C b d) < Lk.far C a d) := by
      split
      · omega
      · by_cases h : Lk.far C a b + Lk.far C b d < 200
        · have := HT.out h; omega
        · omega
    have E3 := Lib.hid e3; clear e3
    go_upto_region 7 with fail
    go_cut [90] (fun s wx => CutB C w L s wx)
    case first =>
      go_wp2_with fail
      refine (Lfar L _ C _ HL.out HH.out).mono ?_
      rintro e w3 ⟨rfl, hF⟩
      have HL := Lib.hid (hF.row HL.out (fun h => h))
      have HF := Lib.hid (HF.out.trans hF); clear hF
      go_wp2_with fail
      refine (Lfar L _ C _ HL.out HH.out).mono ?_
      rintro e w4 ⟨rfl, hF⟩
      have HL := Lib.hid (hF.row HL.out (fun h => h))
      have HF := Lib.hid (HF.out.trans hF); clear hF
      go_wp2_with fail
      all_goals (go_meet; refine ⟨?_, HL.out, HF.out⟩; have := E3.out; simp only [Value.bool.injEq]; simp; omega)
    case rest =>
      clear HL HF e1 e2
      obtain ⟨rfl, hL, hF⟩ := hcut
      have HL := Lib.hid hL; clear hL
      have HF := Lib.hid hF; clear hF
      go_wp2_with fail
      refine (Cost_yes L a b C _ ha hb HL.out).mono ?_; rintro e w5 ⟨rfl, rfl⟩
      have n0 := HH.out.lo a b ha hb
      have n1 := HH.out.hi a b ha hb
      go_upto_region 10 with fail
      go_cut [101] (fun s wx => CutB C w L s wx)
      case first =>
        by_cases hn0 : 0 < C a b
        · have hle := HK.out hn0
          go_wp2_with fail
          go_meet
          exact ⟨by simp; omega, HL.out, HF.out⟩
        · have hn1 : decide (0 < C a b) = false := by simpa using hn0
          go_wp2_with fail
          go_meet
          exact ⟨by simp, HL.out, HF.out⟩
      case rest =>
        clear HL HF
        obtain ⟨rfl, hL, hF⟩ := hcut
        have HL := Lib.hid hL; clear hL
        have HF := Lib.hid hF; clear hF
        by_cases hab : a = b
        · subst hab
          go_wp2
          go_ret
          exact ⟨rfl, HF.out⟩
        · have hab1 : ((a : Int) == (b : Int)) = false := by simp; omega
          have HAB := Lib.hid hab; clear hab
          by_cases h200 : Lk.far C a b = 200
          · have h2001 : (Lk.far C (a : Int) b == 200) = true := by simpa using h200
            clear h200
            go_wp2
            go_ret
            exact ⟨rfl, HF.out⟩
          · have h2001 : (Lk.far C (a : Int) b == 200) = false := by simpa using h200
            have hlt : Lk.far C a b < 200 := by omega
            have HE2 := Lib.hid (HE.out HAB.out hlt)
            clear h200
            have HS := Lib.hid (fun s : Int => Lk.far_sol HH.out s)
            clear HT HK HE E3 hlt HAB
            go_wp2_with fail
            refine (Of_yes L a C _ ha HL.out).mono ?_
            rintro e w5 ⟨v, rfl, hv, hF⟩
            have HL := Lib.hid (hF.row HL.out (fun h => h))
            have HF := Lib.hid (HF.out.trans hF); clear hF
            have HV := Lib.hid hv; clear hv
            rcases HV.out.shape with ⟨rfl, hx⟩ | ⟨g, cap, rfl, hg, hg2, _⟩
            · have h0 : (ofL C a 6).length = 0 := by simpa [ints] using congrArg List.length hx
              have h1 := HE2.out
              rw [h0] at h1
              simp [ledK] at h1
            · have hlen : (ints (ofL C a 6)).length = (ofL C a 6).length := by simp [ints]
              have hv2 : Sl w5 wc.heap.size (.slice (some ⟨g, 0, none⟩) (ofL C a 6).length cap) (ints (ofL C a 6)) := by rw [← hlen]; exact HV.out
              have HV := Lib.hid hv2; clear hv2
              rw [hlen]
              clear hlen
              have hLe := ofL_le C a 6
              go_wp2
              go_loopw [16, 18] (fun p i wr => LedRel C a b w L wc.heap.size (.slice (some ⟨g, 0, none⟩) (ofL C a 6).length cap) p i wr) (fun _ i _ => (ofL C a 6).length - (intOf i).toNat)
              case atStart => exact ⟨0, by omega, rfl, by simp [ledK], HL.out, HV.out, HF.out⟩
              case round =>
                clear HL HF HV hg hg2
                obtain ⟨k, hk, rfl, rfl, hL, hsl, hF⟩ := hrel
                have HL := Lib.hid hL; clear hL
                have HV := Lib.hid hsl; clear hsl
                have HF := Lib.hid hF; clear hF
                by_cases hkl : k < (ofL C a 6).length
                · have hmem := (mem_ofL C a (ofL C a 6)[k]).1 (List.getElem_mem hkl)
                  have hnext := ledK_next C a b k hkl
                  have cV : wr.cell? ⟨g, k, none⟩ = some (.int .i64 ((ofL C a 6)[k] : Nat)) := by
                    rcases HV.out.shape with ⟨h, _⟩ | ⟨g', cap', h, _, _, hc⟩
                    · cases h
                    · have eg : g' = g := by injection h with e1 e2 e3; injection e1 with e1; injection e1 with e1; exact e1.symm
                      rw [← eg, hc k (by simpa [ints] using hkl)]
                      simp [ints, hkl]
                  generalize (ofL C a 6)[k] = u at *
                  obtain ⟨hu6, hupos⟩ := hmem
                  have HN := Lib.hid hnext; clear hnext
                  cases hled : ledK C a b k
                  · have HD := Lib.hid hled; clear hled
                    have u1 := HH.out.hi a u ha hu6
                    have u2 := (HS.out u).lo b hb
                    have u3 := (HS.out u).hi b hb
                    go_wp2
                    go_region_held3 (fun W => W.cell? ⟨g, k, none⟩ = some (.int .i64 u)) (first | exact cW | exact cV)
                      (first | (go_at_call 24; refine (Cost_yes L a u C _ ha hu6 (by exact HL.out)).mono ?_; rintro e w6 ⟨rfl, rfl⟩) | (go_at_call 26; refine (Lfar L u C _ (by exact HL.out) HH.out).mono ?_; rintro e w7 ⟨rfl, hF7⟩; have cW : w7.cell? ⟨g, k, none⟩ = some (.int .i64 u) := cell_fr hF7 cV (fun h => h)))
                    all_goals (go_wp2; go_roundw; (case measure => simp [intOf]; omega); (case rel => exact ⟨k + 1, by omega, by go_num, by rw [HN.out, HD.out, IntWalk.i64_in _ (by omega)]; rfl, hF7.row HL.out (fun h => h), own_keep (w := wr.drew) (by exact HV.out) hF7 (fun _ _ h => h), HF.out.drew.trans hF7⟩))
                  · have HD := Lib.hid hled; clear hled
                    go_wp2
                    go_quiet (fail)
                    go_wp2
                    go_roundw
                    case rel => exact ⟨k + 1, by omega, by go_num, by rw [HN.out, HD.out]; rfl, HL.out, HV.out, HF.out.drewN _⟩
                    case measure => simp [intOf]; omega
                · have ek : ledK C a b k = true := by rw [show k = (ofL C a 6).length from by omega]; exact HE2.out
                  rw [ek]
                  clear ek
                  go_wp2
                  go_ret
                  exact ⟨rfl, HF.out⟩
end Go.Proofs.Ytdpgbgapelgomaa
