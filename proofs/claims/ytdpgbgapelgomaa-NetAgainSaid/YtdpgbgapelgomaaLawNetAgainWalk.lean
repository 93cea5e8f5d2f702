/- The walk of NetAgain. -/
import Derived.Test.YtdpgbgapelgomaaNt9
import Derived.Test.YtdpgbgapelgomaaNtMath11
namespace Go.Proofs.Ytdpgbgapelgomaa
open Go.RowKit Go.Deep

/-- How far, in a block of six cells. -/
def FAt (w : World) (p : Nat) (F : Nat → Int) : Prop := w.rowIs p 32 6 (I F)
theorem FAt.new (w : World) (F : Nat → Int) : FAt (w.alloc (.cells #[.int .i64 (F 0), .int .i64 (F 1), .int .i64 (F 2), .int .i64 (F 3), .int .i64 (F 4), .int .i64 (F 5)] 32)) w.heap.size F :=
  World.rowIs_alloc w _ _ (I F) (fun i hi => by
    match i, hi with
    | 0, _ => rfl
    | 1, _ => rfl
    | 2, _ => rfl
    | 3, _ => rfl
    | 4, _ => rfl
    | 5, _ => rfl)
theorem NWay_d (x : Ids) (v : Value) (t : Nt.NT) (a b : Nat) (F : Int) (w : World) (ha : a < 6) (hb : b < 6) (hF : (t.N a).wD b = F) (h : NtAt w x v t) :
    Calls Try.prog 47 #[.pointer (some ⟨x.b, 0, none⟩), .int .i64 a, .int .i64 b] w fun e w' => ∃ z1 z2 : Int, e = .returned (.agg #[.int .i64 z1, .int .i64 F, .int .i64 z2]) ∧ Fr NoB w w' := by
  refine (NWay_in x v t a b w ha hb h).mono ?_
  rintro e w' ⟨rfl, hf⟩
  exact ⟨_, _, by rw [hF], hf⟩
def AgRel0 (C : Nat → Nat → Int) (n n2 : Nat) (w : World) (x : Ids) (g : Nat) (i : Value) (wr : World) : Prop :=
  ∃ (k : Nat) (S : Nt.NT) (v : Value), k ≤ n2 ∧ g = n2 - k ∧ i = .int .i64 k ∧ Nt.Sc C (n + 1 + k) S ∧ NtR w x v S wr
def AgRel1 (S : Nt.NT) (w : World) (x : Ids) (v : Value) (g : Nat) (i : Value) (wr : World) : Prop :=
  ∃ a : Nat, a ≤ 6 ∧ g = 6 - a ∧ i = .int .i64 a ∧ NtR w x v S wr
def AgRel2 (S : Nt.NT) (F : Nat → Int) (pf : Nat) (w : World) (x : Ids) (v : Value) (g : Nat) (i : Value) (wr : World) : Prop :=
  ∃ b : Nat, b ≤ 6 ∧ g = 6 - b ∧ i = .int .i64 b ∧ NtR w x v S wr ∧ FAt wr pf F
def CutA1 (b : Bool) (w : World) (s : Value) (wx : World) : Prop := s = .bool b ∧ w = wx
def CutA2 (C : Nat → Nat → Int) (m k : Nat) (w : World) (x : Ids) (s : Value) (wx : World) : Prop := ∃ (S : Nt.NT) (v : Value), s = .int .i64 k ∧ Nt.Sc C m S ∧ NtR w x v S wx
theorem Nt.Sc.mono {C : Nat → Nat → Int} {m k : Nat} {S : Nt.NT} (h : Nt.Sc C m S) (hm : m ≤ k) : Nt.Sc C k S := ⟨h.ok, h.nok.mono hm, h.c, h.str, h.st⟩

set_option maxRecDepth 100000 in
set_option maxHeartbeats 8000000 in
theorem NetAgain_main (a0 : Option Addr) (n c : Nat) (X : Nat → Int) (a2 : Option Addr) (n2 c2 : Nat) (Y : Nat → Int) (w : World) (hn : n ≤ 150) (hn2 : n2 ≤ 100) (hX : Rd w a0 (n * 6) X) (hY : Rd w a2 (n2 * 6) Y) :
    Calls Try.prog 15 #[.slice a0 n c, .slice a2 n2 c2] w (TrueFr w) := by
  have HX := Lib.hid hX; clear hX; have HY := Lib.hid hY; clear hY
  go_enter Try.func15, Try.ntmps15
  go_wp2_with fail
  refine (netBegun_true _).mono ?_
  rintro e w1 ⟨rfl, hF⟩
  have HF := Lib.hid hF; clear hF
  go_wp2_with fail
  refine (played_any a0 n c X _ hn (Rd.keep HX.out HF.out (fun _ _ h => h))).mono ?_
  rintro e w2 ⟨x, v, rfl, h1⟩
  have hz := HF.out.size
  have h2 : NtR w x v (Nt.runT X n) w2 := ⟨h1.at_, HF.out.trans h1.f, fun i hi => by have := h1.new i hi; omega⟩
  clear h1 hz HF
  have H := Lib.hid h2; clear h2
  go_wp2_with fail
  refine (Settle_any x v (Nt.runT X n) 14 n _ (by omega) (Nt.runT_ok X n) (by omega) H.out.at_).mono ?_
  rintro e w3 ⟨rfl, hsg⟩
  have h3 : NtR w x (.slice none 0 0) (Nt.settleT (Nt.runT X n) 14) w3 := H.out.step hsg.at_ hsg.f (fun g hg => by cases hg)
  have hsc : Nt.Sc (Nt.runT X n).C (n + 1) (Nt.settleT (Nt.runT X n) 14) := Nt.Sc.settle (Nt.runT_str X n) hsg.ok
  clear H hsg
  generalize (Nt.runT X n).C = C at *
  generalize Nt.settleT (Nt.runT X n) 14 = S at *
  have H := Lib.hid h3; clear h3; have HS := Lib.hid hsc; clear hsc
  go_wp2
  go_loopg [6] n2 (fun g i wr => AgRel0 C n n2 w x g i wr)
  case atStart => exact ⟨0, S, _, by omega, by omega, rfl, HS.out, H.out⟩
  case round =>
    clear H HS
    obtain ⟨k, S, v, hk, hgk, rfl, hsc, h2⟩ := hrel
    have HG := Lib.hid hgk; clear hgk
    have H := Lib.hid h2; clear h2; have HS := Lib.hid hsc; clear hsc
    by_cases hkn : k < n2
    · have hkb : decide ((k : Int) < (n2 : Int)) = true := by simp; omega
      obtain ⟨b0, o0, rfl, c0⟩ := HY.out (k * 6) (by omega)
      obtain ⟨b1, o1, e1, c1⟩ := HY.out (k * 6 + 1) (by omega)
      obtain ⟨b2, o2, e2, c2⟩ := HY.out (k * 6 + 2) (by omega)
      obtain ⟨b3, o3, e3, c3⟩ := HY.out (k * 6 + 3) (by omega)
      obtain ⟨b4, o4, e4, c4⟩ := HY.out (k * 6 + 4) (by omega)
      obtain ⟨b5, o5, e5, c5⟩ := HY.out (k * 6 + 5) (by omega)
      cases e1; cases e2; cases e3; cases e4; cases e5
      generalize Y (k * 6) = x0 at *
      generalize Y (k * 6 + 1) = x1 at *
      generalize Y (k * 6 + 2) = x2 at *
      generalize Y (k * 6 + 3) = x3 at *
      generalize Y (k * 6 + 4) = x4 at *
      generalize Y (k * 6 + 5) = x5 at *
      have c0 := cell_fr H.out.f c0 (fun h => h)
      have c1 := cell_fr H.out.f c1 (fun h => h)
      have c2 := cell_fr H.out.f c2 (fun h => h)
      have c3 := cell_fr H.out.f c3 (fun h => h)
      have c4 := cell_fr H.out.f c4 (fun h => h)
      have c5 := cell_fr H.out.f c5 (fun h => h)
      rw [← Nat.add_assoc] at c1 c2 c3 c4 c5
      go_upto_region 10 with fail
      go_cut [46] (fun s wx => CutA1 (decide (x0 ≠ 1 ∧ x0 ≠ 2)) wr s wx)
      case first =>
        by_cases e1 : x0 = 1
        · have hd : decide (x0 ≠ 1 ∧ x0 ≠ 2) = false := by simp [e1]
          have hb : (x0 != 1) = false := by simp [e1]
          clear e1
          have HDD := Lib.hid hd; clear hd
          go_wp2_with fail
          go_meet
          exact ⟨by rw [HDD.out], rfl⟩
        · have hb : (x0 != 1) = true := by simpa using e1
          by_cases e2 : x0 = 2
          · have hd : decide (x0 ≠ 1 ∧ x0 ≠ 2) = false := by simp [e2]
            have hb2 : (x0 != 2) = false := by simp [e2]
            clear e1 e2
            have HDD := Lib.hid hd; clear hd
            go_wp2_with fail
            go_meet
            exact ⟨by rw [HDD.out], rfl⟩
          · have hd : decide (x0 ≠ 1 ∧ x0 ≠ 2) = true := by simp [e1, e2]
            have hb2 : (x0 != 2) = true := by simpa using e2
            clear e1 e2
            have HDD := Lib.hid hd; clear hd
            go_wp2_with fail
            go_meet
            exact ⟨by rw [HDD.out], rfl⟩
      case rest =>
        obtain ⟨rfl, rfl⟩ := hcut
        go_upto_if 46 with fail
        go_cut [6] (fun s wx => CutA2 C (n + 1 + k + 1) k w x s wx)
        case first =>
          by_cases hd : x0 ≠ 1 ∧ x0 ≠ 2
          · have hdb : decide (x0 ≠ 1 ∧ x0 ≠ 2) = true := decide_eq_true hd
            rw [hdb]
            obtain ⟨e1, e2⟩ := hd
            have hsc2 := HS.out.doT (k := x0) (a := x1) (b := x2) (c := x3) e1 e2
            clear hdb e1 e2
            have HS2 := Lib.hid hsc2; clear hsc2
            go_wp2_with fail
            refine (Do_any x v _ x0 x1 x2 x3 x4 x5 (n + 1 + k) _ HS.out.nok (by omega) H.out.at_).mono ?_
            rintro e w4 ⟨v4, rfl, ha, hf, hg⟩
            have h4 := H.out.step ha hf hg
            clear H HS ha hf hg c0 c1 c2 c3 c4 c5
            generalize (Nt.doT S x0 x1 x2 x3).2 = cc at *
            have H := Lib.hid h4; clear h4
            go_wp2_with fail
            go_meet
            exact ⟨_, v4, rfl, HS2.out, H.out⟩
          · have hdb : decide (x0 ≠ 1 ∧ x0 ≠ 2) = false := decide_eq_false hd
            rw [hdb]
            clear hdb hd
            go_wp2_with fail
            go_meet
            exact ⟨S, v, rfl, HS.out.mono (by omega), H.out⟩
        case rest =>
          clear H HS c0 c1 c2 c3 c4 c5
          obtain ⟨S1, v1, rfl, hsc, h2⟩ := hcut
          have H := Lib.hid h2; clear h2; have HS1 := Lib.hid hsc; clear hsc
          go_wp2
          go_loopg [7] 6 (fun g i wr => AgRel1 S1 w x v1 g i wr)
          case atStart => exact ⟨0, by omega, by omega, rfl, H.out⟩
          case round =>
            clear H
            obtain ⟨a, ha, hga, rfl, h2⟩ := hrel
            have HGA := Lib.hid hga; clear hga
            have H := Lib.hid h2; clear h2
            by_cases ha6 : a < 6
            · have hab : decide ((a : Int) < 6) = true := by simp; omega
              have c0 := H.out.at_.c0
              go_wp2_with fail
              refine (Lfar x.L a S1.C _ H.out.at_.links (by rw [HS1.out.c]; exact HS1.out.ok)).mono ?_
              rintro e w4 ⟨rfl, hf⟩
              have h4 := H.out.keep hf
              rw [HS1.out.c]
              clear H c0 hf
              unfold agg6
              have H := Lib.hid h4; clear h4
              go_wp2
              refine wp_name fun w5 hw5 => ?_
              have hf : Fr NoB w4 w5 := by rw [hw5]; exact (Fr.refl _ _).alloc _
              have hfa : FAt w5 w4.heap.size (Lk.far C a) := by rw [hw5]; exact FAt.new w4 _
              have h5 := H.out.keep hf
              clear hw5 hf H
              generalize w4.heap.size = pf at *
              have H := Lib.hid h5; clear h5; have HFA := Lib.hid hfa; clear hfa
              go_loopg [9] 6 (fun g i wr => AgRel2 S1 (Lk.far C a) pf w x v1 g i wr)
              case atStart => exact ⟨0, by omega, by omega, rfl, H.out, HFA.out⟩
              case round =>
                clear H HFA
                obtain ⟨b, hb, hgb, rfl, h2, hfa⟩ := hrel
                have HGB := Lib.hid hgb; clear hgb
                have H := Lib.hid h2; clear h2; have HFA := Lib.hid hfa; clear hfa
                by_cases hb6 : b < 6
                · have hbb : decide ((b : Int) < 6) = true := by simp; omega
                  have hbi : (b : Int) < 6 := by omega
                  have hdist := HS1.out.dist ha6 hb6
                  generalize Lk.far C a = F at *
                  have hF := rowI_cell HFA.out hb6
                  have hb1 : (F b != F b) = false := by simp
                  have hfd := fieldDist
                  have HD := Lib.hid hdist; clear hdist
                  go_wp2_with fail
                  go_region_held3 (fun W => W.cell? ⟨pf, b, none⟩ = some (.int .i64 (F b)))
                    (first | exact hF | exact hF2)
                    ((go_at_call 47; refine (NWay_d x v1 S1 a b (F b) _ ha6 hb6 HD.out (by exact (H.out.keep ((Fr.refl _ _).drew)).at_)).mono ?_; rintro e w6 ⟨z1, z2, rfl, hf⟩; have hF2 := cell_fr hf hF (fun h => h)))
                  have h6 := (H.out.keep ((Fr.refl _ _).drew)).keep hf
                  have hfa : FAt w6 pf F := hf.row (World.rowIs.drew HFA.out) (fun h => h)
                  clear H HFA hf hF hF2
                  have H := Lib.hid h6; clear h6; have HFA := Lib.hid hfa; clear hfa
                  go_wp2
                  go_roundg (6 - (b + 1))
                  case rel => exact ⟨b + 1, by omega, rfl, by go_num, H.out, HFA.out⟩
                  case measure => have := HGB.out; omega
                · obtain rfl : b = 6 := by omega
                  go_wp2
                  go_roundg (6 - (a + 1))
                  case rel => exact ⟨a + 1, by omega, rfl, by go_num, H.out⟩
                  case measure => have := HGA.out; omega
            · obtain rfl : a = 6 := by omega
              go_wp2
              go_roundg (n2 - (k + 1))
              case rel => exact ⟨k + 1, S1, v1, by omega, rfl, by go_num, by rw [show n + 1 + (k + 1) = n + 1 + k + 1 from by omega]; exact HS1.out, H.out⟩
              case measure => have := HG.out; omega
    · have hkb : decide ((k : Int) < (n2 : Int)) = false := by simp; omega
      go_wp2_with fail
      refine (Settle_any x v S 14 (n + 1 + k) _ (by omega) HS.out.nok (by omega) H.out.at_).mono ?_
      rintro e w3 ⟨rfl, hsg⟩
      have h3 : NtR w x (.slice none 0 0) (Nt.settleT S 14) w3 := H.out.step hsg.at_ hsg.f (fun g hg => by cases hg)
      have hsc : Nt.Sc C (n + 1 + k + 1) (Nt.settleT S 14) := by
        obtain ⟨z, hz⟩ := HS.out.str
        have := Nt.Sc.settle hz hsg.ok
        rw [HS.out.c] at this
        exact this
      clear H HS hsg HG hkb
      generalize Nt.settleT S 14 = T at *
      have H := Lib.hid h3; clear h3; have HT := Lib.hid hsc; clear hsc
      go_wp2
      go_loopg [10] 6 (fun g i wr => AgRel1 T w x (.slice none 0 0) g i wr)
      case atStart => exact ⟨0, by omega, by omega, rfl, H.out⟩
      case round =>
        clear H
        obtain ⟨a, ha, hga, rfl, h2⟩ := hrel
        have HGA := Lib.hid hga; clear hga
        have H := Lib.hid h2; clear h2
        by_cases ha6 : a < 6
        · have hab : decide ((a : Int) < 6) = true := by simp; omega
          have c0 := H.out.at_.c0
          go_wp2_with fail
          refine (Lfar x.L a T.C _ H.out.at_.links (by rw [HT.out.c]; exact HT.out.ok)).mono ?_
          rintro e w4 ⟨rfl, hf⟩
          have h4 := H.out.keep hf
          rw [HT.out.c]
          clear H c0 hf
          unfold agg6
          have H := Lib.hid h4; clear h4
          go_wp2
          refine wp_name fun w5 hw5 => ?_
          have hf : Fr NoB w4 w5 := by rw [hw5]; exact (Fr.refl _ _).alloc _
          have hfa : FAt w5 w4.heap.size (Lk.far C a) := by rw [hw5]; exact FAt.new w4 _
          have h5 := H.out.keep hf
          clear hw5 hf H
          generalize w4.heap.size = pf at *
          have H := Lib.hid h5; clear h5; have HFA := Lib.hid hfa; clear hfa
          go_loopg [12] 6 (fun g i wr => AgRel2 T (Lk.far C a) pf w x (.slice none 0 0) g i wr)
          case atStart => exact ⟨0, by omega, by omega, rfl, H.out, HFA.out⟩
          case round =>
            clear H HFA
            obtain ⟨b, hb, hgb, rfl, h2, hfa⟩ := hrel
            have HGB := Lib.hid hgb; clear hgb
            have H := Lib.hid h2; clear h2; have HFA := Lib.hid hfa; clear hfa
            by_cases hb6 : b < 6
            · have hbb : decide ((b : Int) < 6) = true := by simp; omega
              have hbi : (b : Int) < 6 := by omega
              have hdist := HT.out.dist ha6 hb6
              generalize Lk.far C a = F at *
              have hF := rowI_cell HFA.out hb6
              have hb1 : (F b != F b) = false := by simp
              have hfd := fieldDist
              have HD := Lib.hid hdist; clear hdist
              go_wp2_with fail
              go_region_held3 (fun W => W.cell? ⟨pf, b, none⟩ = some (.int .i64 (F b)))
                (first | exact hF | exact hF2)
                ((go_at_call 47; refine (NWay_d x (.slice none 0 0) T a b (F b) _ ha6 hb6 HD.out (by exact (H.out.keep ((Fr.refl _ _).drew)).at_)).mono ?_; rintro e w6 ⟨z1, z2, rfl, hf⟩; have hF2 := cell_fr hf hF (fun h => h)))
              have h6 := (H.out.keep ((Fr.refl _ _).drew)).keep hf
              have hfa : FAt w6 pf F := hf.row (World.rowIs.drew HFA.out) (fun h => h)
              clear H HFA hf hF hF2
              have H := Lib.hid h6; clear h6; have HFA := Lib.hid hfa; clear hfa
              go_wp2
              go_roundg (6 - (b + 1))
              case rel => exact ⟨b + 1, by omega, rfl, by go_num, H.out, HFA.out⟩
              case measure => have := HGB.out; omega
            · obtain rfl : b = 6 := by omega
              go_wp2
              go_roundg (6 - (a + 1))
              case rel => exact ⟨a + 1, by omega, rfl, by go_num, H.out⟩
              case measure => have := HGA.out; omega
        · obtain rfl : a = 6 := by omega
          go_wp2
          go_ret
          exact ⟨rfl, H.out.f⟩

set_option maxRecDepth 100000 in
set_option maxHeartbeats 2000000 in
theorem NetAgain_all (a0 : Option Addr) (n0 c0 : Nat) (X0 : Nat → Int) (a1 : Option Addr) (n1 c1 : Nat) (X1 : Nat → Int) (w : World) (r0 : Rd w a0 (n0 * 6) X0) (r1 : Rd w a1 (n1 * 6) X1) :
    Calls Try.prog 15 #[.slice a0 n0 c0, .slice a1 n1 c1] w (TrueFr w) := by
  by_cases hn : n0 ≤ 150
  · by_cases hn1 : n1 ≤ 100
    · exact NetAgain_main a0 n0 c0 X0 a1 n1 c1 X1 w hn hn1 r0 r1
    · clear r0 r1
      have hb : decide ((150 : Int) < (n0 : Int)) = false := by simp; omega
      have hb1 : decide ((100 : Int) < (n1 : Int)) = true := by simp; omega
      go_enter Try.func15, Try.ntmps15
      go_wp2_with fail
      refine (netBegun_true _).mono ?_
      rintro e w1 ⟨rfl, hF⟩
      have HF := Lib.hid hF; clear hF
      go_wp2
      go_ret
      exact ⟨rfl, HF.out⟩
  · clear r0 r1
    have hb : decide ((150 : Int) < (n0 : Int)) = true := by simp; omega
    go_enter Try.func15, Try.ntmps15
    go_wp2_with fail
    refine (netBegun_true _).mono ?_
    rintro e w1 ⟨rfl, hF⟩
    have HF := Lib.hid hF; clear hF
    go_wp2
    go_ret
    exact ⟨rfl, HF.out⟩
end Go.Proofs.Ytdpgbgapelgomaa
