/- The walk of NetSettles. -/
import Derived.Test.YtdpgbgapelgomaaNt9
import Derived.Test.YtdpgbgapelgomaaNtMath10
namespace Go.Proofs.Ytdpgbgapelgomaa
open Go.RowKit Go.Deep

/-- How far, in a block of six cells. -/
def FAt (w : World) (p : Nat) (F : Nat → Int) : Prop := w.rowIs p 32 6 (I F)
theorem FAt.new (w : World) (F : Nat → Int) : FAt (w.alloc (.cells #[.int .i64 (F 0), .int .i64 (F 1), .int .i64 (F 2), .int .i64 (F 3), .int .i64 (F 4), .int .i64 (F 5)] 32)) w.heap.size F :=
  World.rowIs_alloc w _ _ (I F) (fun i hi => by
    match i, hi with
    | 0, _ => rfl
    | 1, _ => rfl
    | 2, _ => rfl
    | 3, _ => rfl
    | 4, _ => rfl
    | 5, _ => rfl)
theorem rounds_bd (more : Int) : 14 ≤ wrap64 (14 + wrap64 ((IntKind.u64.wrap more).tmod 6)) ∧ wrap64 (14 + wrap64 ((IntKind.u64.wrap more).tmod 6)) ≤ 19 := by
  have h0 : 0 ≤ IntKind.u64.wrap more := by
    simp [IntKind.wrap, IntKind.signed, IntKind.bits]
    omega
  have h1 : (IntKind.u64.wrap more).tmod 6 = IntKind.u64.wrap more % 6 := Int.tmod_eq_emod_of_nonneg h0
  rw [h1]
  unfold wrap64
  omega
def CutA1 (b : Bool) (w : World) (s : Value) (wx : World) : Prop := s = .bool b ∧ w = wx
theorem Cost_q (b : Nat) (x y : Nat) (C : Nat → Nat → Int) (w : World) (hx : x < 6) (hy : y < 6) (hC : CAt w b 103 C) :
    Calls Try.prog 24 #[.pointer (some ⟨b, 0, none⟩), .int .i64 x, .int .i64 y] w fun e w' => e = .returned (.int .i64 (C x y)) ∧ w' = w :=
  (Cost_yes b x y C w hx hy hC).mono fun _ _ h => ⟨h.1, h.2.symm⟩
theorem far_symm {C : Nat → Nat → Int} (hC : Lk.CostOK C) {a b : Nat} (ha : a < 6) (hb : b < 6) : Lk.far C (a : Int) b = Lk.far C (b : Int) a := Nt.far_sym hC ha hb
def SnRel3 (S : Nt.NT) (C : Nat → Nat → Int) (F : Nat → Int) (pf : Nat) (l : List Int) (lv : Value) (base : Nat) (w : World) (x : Ids) (v : Value) (g : Nat) (s i : Value) (wr : World) : Prop :=
  ∃ k : Nat, k + 1 ≤ l.length ∧ g = l.length - (k + 1) ∧ s = .int .i64 (Nt.psum C l k) ∧ i = .int .i64 (k + 1 : Nat) ∧ NtR w x v S wr ∧ FAt wr pf F ∧ Sl wr base lv l
def SnRel1 (S : Nt.NT) (w : World) (x : Ids) (v : Value) (g : Nat) (i : Value) (wr : World) : Prop :=
  ∃ a : Nat, a ≤ 6 ∧ g = 6 - a ∧ i = .int .i64 a ∧ NtR w x v S wr
def SnRel2 (S : Nt.NT) (F : Nat → Int) (pf : Nat) (w : World) (x : Ids) (v : Value) (g : Nat) (i : Value) (wr : World) : Prop :=
  ∃ b : Nat, b ≤ 6 ∧ g = 6 - b ∧ i = .int .i64 b ∧ NtR w x v S wr ∧ FAt wr pf F
def CutB1 (w : World) (s : Value) (wx : World) : Prop := s = .bool false ∧ Fr NoB w wx
/-- What is known of a settled net. -/
structure Sd (C : Nat → Nat → Int) (m : Nat) (S : Nt.NT) : Prop where
  ok : Lk.CostOK C
  nok : Nt.NOk S m
  c : S.C = C
  news : S.news = []
  st : ∀ dst, dst < 6 → ∃ q n, Nt.Settled C dst q (Lk.far C dst) n S

set_option maxRecDepth 100000 in
set_option maxHeartbeats 8000000 in
theorem NetSettles_main (a0 : Option Addr) (n c : Nat) (X : Nat → Int) (more : Int) (w : World) (hn : n ≤ 150) (hX : Rd w a0 (n * 6) X) :
    Calls Try.prog 14 #[.slice a0 n c, .int .i64 more] w (TrueFr w) := by
  have HX := Lib.hid hX; clear hX
  go_enter Try.func14, Try.ntmps14
  go_wp2_with fail
  refine (netBegun_true _).mono ?_
  rintro e w1 ⟨rfl, hF⟩
  have HF := Lib.hid hF; clear hF
  go_wp2_with fail
  refine (played_any a0 n c X _ hn (Rd.keep HX.out HF.out (fun _ _ h => h))).mono ?_
  rintro e w2 ⟨x, v, rfl, h1⟩
  have hz := HF.out.size
  have h2 : NtR w x v (Nt.runT X n) w2 := ⟨h1.at_, HF.out.trans h1.f, fun i hi => by have := h1.new i hi; omega⟩
  clear h1 hz HF
  have H := Lib.hid h2; clear h2
  obtain ⟨hr1, hr2⟩ := rounds_bd more
  go_wp2_with fail
  generalize wrap64 (14 + wrap64 ((IntKind.u64.wrap more).tmod 6)) = R at *
  refine (Settle_any x v (Nt.runT X n) R n _ (by omega) (Nt.runT_ok X n) (by omega) H.out.at_).mono ?_
  rintro e w3 ⟨rfl, hsg⟩
  have h3 : NtR w x (.slice none 0 0) (Nt.settleT (Nt.runT X n) R) w3 := H.out.step hsg.at_ hsg.f (fun g hg => by cases hg)
  have hsd : Sd (Nt.runT X n).C (n + 1) (Nt.settleT (Nt.runT X n) R) := ⟨(Nt.runT_ok X n).cost, hsg.ok, Nt.settleT_C _ _, Nt.settleT_news _ _, fun dst hd => ⟨_, _, Nt.settled (Nt.runT_str X n) hd (by omega)⟩⟩
  clear H hsg hr1 hr2
  generalize (Nt.runT X n).C = C at *
  generalize Nt.settleT (Nt.runT X n) R = S at *
  have H := Lib.hid h3; clear h3; have HS := Lib.hid hsd; clear hsd
  go_wp2
  go_loopg [6] 6 (fun g i wr => SnRel1 S w x (.slice none 0 0) g i wr)
  case atStart => exact ⟨0, by omega, by omega, rfl, H.out⟩
  case round =>
    clear H
    obtain ⟨a, ha, hga, rfl, h2⟩ := hrel
    have HGA := Lib.hid hga; clear hga
    have H := Lib.hid h2; clear h2
    by_cases ha6 : a < 6
    · have hab : decide ((a : Int) < 6) = true := by simp; omega
      have c0 := H.out.at_.c0
      go_wp2_with fail
      refine (Lfar x.L a S.C _ H.out.at_.links (by rw [HS.out.c]; exact HS.out.ok)).mono ?_
      rintro e w4 ⟨rfl, hf⟩
      have h4 := H.out.keep hf
      rw [HS.out.c]
      clear H c0 hf
      unfold agg6
      have H := Lib.hid h4; clear h4
      go_wp2
      refine wp_name fun w5 hw5 => ?_
      have hf : Fr NoB w4 w5 := by rw [hw5]; exact (Fr.refl _ _).alloc _
      have hfa : FAt w5 w4.heap.size (Lk.far C a) := by rw [hw5]; exact FAt.new w4 _
      have h5 := H.out.keep hf
      clear hw5 hf H
      generalize w4.heap.size = pf at *
      have H := Lib.hid h5; clear h5; have HFA := Lib.hid hfa; clear hfa
      go_loopg [8] 6 (fun g i wr => SnRel2 S (Lk.far C a) pf w x (.slice none 0 0) g i wr)
      case atStart => exact ⟨0, by omega, by omega, rfl, H.out, HFA.out⟩
      case round =>
        clear H HFA
        obtain ⟨b, hb, hgb, rfl, h2, hfa⟩ := hrel
        have HGB := Lib.hid hgb; clear hgb
        have H := Lib.hid h2; clear h2; have HFA := Lib.hid hfa; clear hfa
        by_cases hb6 : b < 6
        · have hbb : decide ((b : Int) < 6) = true := by simp; omega
          obtain ⟨q, nn, hst⟩ := HS.out.st b hb6
          have hsol := Lk.far_sol HS.out.ok (b : Int)
          have hsym := far_symm HS.out.ok ha6 hb6
          obtain ⟨hw1, hw2, _⟩ := hst.way hb6 hsol ha6
          rw [← hsym] at hw1 hw2
          have hpo := Nt.pathT_ok hst.base.str ha6 hb6
          have hbd := Nt.psum_bd HS.out.ok hpo.ch
          have hend : Lk.far C a b < 200 → ∀ m, (pathT S a b).1.length = m + 1 → (pathT S a b).1.getD m 0 = b ∧ Nt.psum C (pathT S a b).1 m = Lk.far C a b := fun hF m hm => by
            have h1 := Nt.way_end hst hb6 hsol ha6 (by rw [← hsym]; exact hF) hm
            rw [← hsym] at h1
            exact h1
          have hlo := hpo.lo
          have hhi := hpo.hi
          have hch := hpo.ch
          have hok := hpo.ok
          have hF := rowI_cell HFA.out hb6
          clear hst hsol hsym hpo
          generalize Lk.far C a = F at *
          have HBD := Lib.hid hbd; clear hbd; have HEN := Lib.hid hend; clear hend; have HLO := Lib.hid hlo; clear hlo; have HHI := Lib.hid hhi; clear hhi; have HCH := Lib.hid hch; clear hch; have HOK := Lib.hid hok; clear hok; have HW1 := Lib.hid hw1; clear hw1; have HW2 := Lib.hid hw2; clear hw2
          clear hF
          go_wp2_with fail
          refine (NWay_in x _ S a b _ ha6 hb6 H.out.at_).mono ?_
          rintro e w6 ⟨rfl, hf⟩
          have h6 := H.out.keep hf
          have hfa : FAt w6 pf F := hf.row HFA.out (fun h => h)
          rw [HW1.out]
          clear H HFA hf
          have H := Lib.hid h6; clear h6; have HFA := Lib.hid hfa; clear hfa
          go_upto_region 15 with fail
          refine wp_name fun w7 hw7 => ?_
          have hf : Fr NoB w6 w7 := by rw [hw7]; exact (Fr.refl _ _).alloc _
          have g1 : w7.cell? ⟨w6.heap.size, 1, none⟩ = some (.int .i64 (F b)) := by rw [hw7]; simp
          have g2 : w7.cell? ⟨w6.heap.size, 2, none⟩ = some (.int .i64 ((S.N a).wH b)) := by rw [hw7]; simp
          have h7 := H.out.keep hf
          have hfa : FAt w7 pf F := hf.row HFA.out (fun h => h)
          have hF := rowI_cell hfa hb6
          have hbi : (b : Int) < 6 := by omega
          clear hw7 hf H HFA
          generalize w6.heap.size = pw at *
          have H := Lib.hid h7; clear h7; have HFA := Lib.hid hfa; clear hfa
          go_cut [61] (fun s wx => CutB1 w7 s wx)
          case first =>
            have hb1 : (F b != F b) = false := by simp
            by_cases hF2 : F b = 200
            · have hb2 : ((S.N a).wH b == -1) = true := by have := HW2.out.2 hF2; simp [this]
              have hb3 : (F b == 200) = true := by simp [hF2]
              clear hF2
              go_quiet (fail)
              go_wp2_with fail
              go_meet
              exact ⟨rfl, (Fr.refl _ _).drewN _⟩
            · have hb2 : ((S.N a).wH b == -1) = false := by
                cases h : ((S.N a).wH b == -1)
                · rfl
                · exact absurd (HW2.out.1 (by simpa using h)) hF2
              have hb3 : (F b == 200) = false := by simpa using hF2
              clear hF2
              go_quiet (fail)
              go_wp2_with fail
              go_meet
              exact ⟨rfl, (Fr.refl _ _).drewN _⟩
          case rest =>
            obtain ⟨rfl, hf⟩ := hcut
            have h8 := H.out.keep hf
            have hfa : FAt wc pf F := hf.row HFA.out (fun h => h)
            clear H HFA hf g1 g2 hF
            have H := Lib.hid h8; clear h8; have HFA := Lib.hid hfa; clear hfa
            go_wp2_with fail
            refine (Path_any x _ S a b _ H.out.at_).mono ?_
            rintro e w8 ⟨pv, rfl, hl, hf⟩
            have h9 := H.out.keep hf
            have hfa : FAt w8 pf F := hf.row HFA.out (fun h => h)
            rw [HOK.out]
            clear HOK
            generalize (pathT S a b).1 = l at *
            generalize wc.heap.size = base at *
            obtain ⟨al, cl, rfl, j⟩ := ownsRow_rd hl
            clear j hf H HFA
            obtain ⟨m, hm⟩ : ∃ m, l.length = m + 1 := ⟨l.length - 1, by have := HLO.out; omega⟩
            have hm6 : m < 6 := by have := HHI.out; omega
            have hl0 : ((l.length : Int) == 0) = false := by rw [beq_eq_false_iff_ne]; omega
            have hF := rowI_cell hfa hb6
            have H := Lib.hid h9; clear h9; have HFA := Lib.hid hfa; clear hfa; have HL := Lib.hid hl; clear hl; have HM := Lib.hid hm; clear hm
            go_upto_region 18 with fail
            go_cut [91] (fun s wx => CutA1 false w8 s wx)
            case first =>
              by_cases hF2 : F b < 200
              · have hd : decide (F b < 200) = true := by simpa using hF2
                obtain ⟨e1, _⟩ := HEN.out hF2 m HM.out
                obtain ⟨g, rfl, ca⟩ := Sl.at HL.out (k := m) (by have := HM.out; omega)
                rw [e1] at ca
                have hsub : IntKind.i64.wrap ((l.length : Int) - 1) = (m : Int) := by have := HM.out; rw [IntWalk.i64_in _ (by omega)]; omega
                have hmi : (m : Int) < (l.length : Int) := by have := HM.out; omega
                have hbb2 : ((b : Int) != (b : Int)) = false := by simp
                clear hF2 e1
                go_wp2_with fail
                go_meet
                exact ⟨rfl, rfl⟩
              · have hd : decide (F b < 200) = false := by simpa using hF2
                clear hF2
                go_wp2_with fail
                go_meet
                exact ⟨rfl, rfl⟩
            case rest =>
              obtain ⟨rfl, rfl⟩ := hcut
              go_wp2
              go_loopg [12, 13] (l.length - 1) (fun g s i wr => SnRel3 S C F pf l (.slice al l.length cl) base w x (.slice none 0 0) g s i wr)
              case atStart => exact ⟨0, by have := HLO.out; omega, by omega, rfl, rfl, H.out, HFA.out, HL.out⟩
              case round =>
                clear H HFA HL hF hl0
                obtain ⟨k, hk, hgk, rfl, rfl, h2, hfa, hl⟩ := hrel
                have HGK := Lib.hid hgk; clear hgk
                have H := Lib.hid h2; clear h2; have HFA := Lib.hid hfa; clear hfa; have HL := Lib.hid hl; clear hl
                have hps := HBD.out k (by omega)
                by_cases hkl : k + 1 < l.length
                · obtain ⟨p, p', hp, hp', hne, ea, eb, hc, _⟩ := HCH.out k hkl
                  obtain ⟨g, rfl, ca⟩ := Sl.at HL.out (k := k) (by omega)
                  obtain ⟨g', e', cb⟩ := Sl.at HL.out (k := k + 1) hkl
                  cases e'
                  have hnext : Nt.psum C l (k + 1) = Nt.psum C l k + C p p' := by rw [Nt.psum, ea, eb, Int.toNat_natCast, Int.toNat_natCast]
                  rw [ea] at ca
                  rw [eb] at cb
                  have hlen6 := HHI.out
                  have hc15 := HS.out.ok.hi p p' hp hp'
                  have hc00 := HS.out.ok.lo p p' hp hp'
                  have hsum := IntWalk.i64_in (Nt.psum C l k + C p p') (by omega)
                  have hsub : IntKind.i64.wrap ((k : Int) + 1 - 1) = (k : Int) := by rw [IntWalk.i64_in _ (by omega)]; omega
                  have hsub2 : IntKind.i64.wrap (k : Int) = (k : Int) := IntWalk.i64_in _ (by omega)
                  have hki : (k : Int) < (l.length : Int) := by omega
                  have hkb : ((k + 1 : Nat) : Int) < (l.length : Int) := by omega
                  have cL := H.out.at_.c0
                  clear ea eb hne hc hc00
                  generalize hP : Nt.psum C l k = P at *
                  clear hP
                  have HNX := Lib.hid hnext; clear hnext; have HPS := Lib.hid hps; clear hps; have HC15 := Lib.hid hc15; clear hc15
                  go_wp2_with fail
                  go_quiet ((go_at_call 24; exact Calls.quiet_of_same (Cost_q x.L p p' C _ hp hp' (by have := H.out.at_.links; rw [HS.out.c] at this; exact this))))
                  go_wp2
                  clear hsub hsub2
                  go_roundg (l.length - (k + 1 + 1))
                  case rel => exact ⟨k + 1, by omega, rfl, by rw [HNX.out], (by first | go_num | exact congrArg (Value.int .i64) (by unfold wrap64; omega)), H.out.keep ((Fr.refl _ _).drewN _), HFA.out, HL.out⟩
                  case measure => have := HGK.out; omega
                · have hkb : decide (((k + 1 : Nat) : Int) < (l.length : Int)) = false := by simp; omega
                  have hlk : l.length = k + 1 := by omega
                  have hF := rowI_cell HFA.out hb6
                  have hen := fun h => (HEN.out h k hlk).2
                  clear hlk
                  generalize hP : Nt.psum C l k = P at *
                  clear hP hps
                  have HE := Lib.hid hen; clear hen
                  go_upto_region 25 with fail
                  go_cut [124] (fun s wx => CutA1 false wr s wx)
                  case first =>
                    by_cases hF2 : F b < 200
                    · have hd : decide (F b < 200) = true := by simpa using hF2
                      have hPF : (P != F b) = false := by have := HE.out hF2; simp [this]
                      clear hF2
                      go_wp2_with fail
                      go_meet
                      exact ⟨rfl, rfl⟩
                    · have hd : decide (F b < 200) = false := by simpa using hF2
                      clear hF2
                      go_wp2_with fail
                      go_meet
                      exact ⟨rfl, rfl⟩
                  case rest =>
                    obtain ⟨rfl, rfl⟩ := hcut
                    clear hF
                    go_wp2
                    go_roundg (6 - (b + 1))
                    case rel => exact ⟨b + 1, by omega, rfl, by go_num, H.out, HFA.out⟩
                    case measure => have := HGB.out; omega
        · obtain rfl : b = 6 := by omega
          go_wp2
          go_roundg (6 - (a + 1))
          case rel => exact ⟨a + 1, by omega, rfl, by go_num, H.out⟩
          case measure => have := HGA.out; omega
    · obtain rfl : a = 6 := by omega
      go_wp2_with fail
      refine (News_any x _ S _ (by rw [HS.out.news]; simp) H.out.at_).mono ?_
      rintro e w4 ⟨nv, rfl, hv, hf⟩
      have h4 := H.out.keep hf
      rw [HS.out.news] at hv
      obtain ⟨na, nc, rfl, j⟩ := ownsRow_rd hv
      clear H hv hf j
      have H := Lib.hid h4; clear h4
      go_wp2
      go_ret
      exact ⟨rfl, H.out.f⟩

set_option maxRecDepth 100000 in
set_option maxHeartbeats 2000000 in
theorem NetSettles_all (a0 : Option Addr) (n0 c0 : Nat) (X0 : Nat → Int) (a1 : Int) (w : World) (r0 : Rd w a0 (n0 * 6) X0) :
    Calls Try.prog 14 #[.slice a0 n0 c0, .int .i64 a1] w (TrueFr w) := by
  by_cases hn : n0 ≤ 150
  · exact NetSettles_main a0 n0 c0 X0 a1 w hn r0
  · clear r0
    go_enter Try.func14, Try.ntmps14
    go_wp2_with fail
    refine (netBegun_true _).mono ?_
    rintro e w1 ⟨rfl, hF⟩
    have HF := Lib.hid hF; clear hF
    go_wp2
    go_ret
    exact ⟨rfl, HF.out⟩
end Go.Proofs.Ytdpgbgapelgomaa
