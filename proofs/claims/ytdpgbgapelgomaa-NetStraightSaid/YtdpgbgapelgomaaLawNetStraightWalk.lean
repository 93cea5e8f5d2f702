/- The walk of NetStraight. -/
import Derived.Test.YtdpgbgapelgomaaNt7
import Derived.Test.YtdpgbgapelgomaaNtMath4
namespace Go.Proofs.Ytdpgbgapelgomaa
open Go.RowKit Go.Deep

theorem Cost_q (b : Nat) (x y : Nat) (C : Nat → Nat → Int) (w : World) (hx : x < 6) (hy : y < 6) (hC : CAt w b 103 C) :
    Calls Try.prog 24 #[.pointer (some ⟨b, 0, none⟩), .int .i64 x, .int .i64 y] w fun e w' => e = .returned (.int .i64 (C x y)) ∧ w' = w :=
  (Cost_yes b x y C w hx hy hC).mono fun _ _ h => ⟨h.1, h.2.symm⟩
theorem RBetter_q1 (a b c d : Int) (w : World) (h : Nd.betB a b c d = true) :
    Calls Try.prog 41 #[.int .i64 a, .int .i64 b, .int .i64 c, .int .i64 d] w fun e w' => e = .returned (.bool true) ∧ w' = w := by
  rw [← h]; exact RBetter_q a b c d w
def StrRel1 (X : Nat → Int) (n : Nat) (w : World) (x : Ids) (g : Nat) (i : Value) (wr : World) : Prop :=
  ∃ (k : Nat) (v : Value), k ≤ n ∧ g = n - k ∧ i = .int .i64 k ∧ NtR w x v (Nt.runT X k) wr
def StrRel2 (t : Nt.NT) (w : World) (x : Ids) (v : Value) (g : Nat) (i : Value) (wr : World) : Prop :=
  ∃ k : Nat, k ≤ 6 ∧ g = 6 - k ∧ i = .int .i64 k ∧ NtR w x v t wr
def StrRel3 (t : Nt.NT) (l : List Int) (pv : Value) (base : Nat) (w : World) (x : Ids) (v : Value) (g : Nat) (i : Value) (wr : World) : Prop :=
  ∃ k : Nat, k + 1 ≤ l.length ∧ g = l.length - (k + 1) ∧ i = .int .i64 (k + 1 : Nat) ∧ NtR w x v t wr ∧ Sl wr base pv l

set_option maxRecDepth 100000 in
set_option maxHeartbeats 8000000 in
theorem NetStraight_main (a0 : Option Addr) (n c : Nat) (X : Nat → Int) (w : World) (hn : n ≤ 150) (hX : Rd w a0 (n * 6) X) :
    Calls Try.prog 11 #[.slice a0 n c] w (TrueFr w) := by
  have HX := Lib.hid hX; clear hX
  go_enter Try.func11, Try.ntmps11
  go_wp2_with fail
  refine (netBegun_true _).mono ?_
  rintro e w1 ⟨rfl, hF⟩
  have HF := Lib.hid hF; clear hF
  go_wp2_with fail
  refine (NewNt _).mono ?_
  rintro e w2 ⟨x, v, rfl, hn1, hf, hnew⟩
  have hz := HF.out.size
  have h1 : NtR w x v Nt.begun w2 := ⟨hn1, HF.out.trans hf, fun i hi => by have := hnew i hi; omega⟩
  clear hn1 hf hnew HF hz
  have H := Lib.hid h1; clear h1
  go_wp2
  go_loopg [4] n (fun g i wr => StrRel1 X n w x g i wr)
  case atStart => exact ⟨0, _, by omega, by omega, rfl, H.out⟩
  case round =>
    clear H
    obtain ⟨k, v, hk, hgk, rfl, h2⟩ := hrel
    have HG := Lib.hid hgk; clear hgk
    have H := Lib.hid h2; clear h2
    have HR := Lib.hid (Nt.runT_ok X k)
    by_cases hkn : k < n
    · have hkb : decide ((k : Int) < (n : Int)) = true := by simp; omega
      obtain ⟨b0, o0, rfl, c0⟩ := HX.out (k * 6) (by omega)
      obtain ⟨b1, o1, e1, c1⟩ := HX.out (k * 6 + 1) (by omega)
      obtain ⟨b2, o2, e2, c2⟩ := HX.out (k * 6 + 2) (by omega)
      obtain ⟨b3, o3, e3, c3⟩ := HX.out (k * 6 + 3) (by omega)
      obtain ⟨b4, o4, e4, c4⟩ := HX.out (k * 6 + 4) (by omega)
      obtain ⟨b5, o5, e5, c5⟩ := HX.out (k * 6 + 5) (by omega)
      cases e1; cases e2; cases e3; cases e4; cases e5
      have hst : Nt.runT X (k + 1) = (Nt.doT (Nt.runT X k) (X (k * 6)) (X (k * 6 + 1)) (X (k * 6 + 2)) (X (k * 6 + 3))).1 := rfl
      have hstr := Nt.runT_str X (k + 1)
      generalize X (k * 6) = x0 at *
      generalize X (k * 6 + 1) = x1 at *
      generalize X (k * 6 + 2) = x2 at *
      generalize X (k * 6 + 3) = x3 at *
      generalize X (k * 6 + 4) = x4 at *
      generalize X (k * 6 + 5) = x5 at *
      have c0 := cell_fr H.out.f c0 (fun h => h)
      have c1 := cell_fr H.out.f c1 (fun h => h)
      have c2 := cell_fr H.out.f c2 (fun h => h)
      have c3 := cell_fr H.out.f c3 (fun h => h)
      have c4 := cell_fr H.out.f c4 (fun h => h)
      have c5 := cell_fr H.out.f c5 (fun h => h)
      rw [← Nat.add_assoc] at c1 c2 c3 c4 c5
      have HST := Lib.hid hst; clear hst; have HS := Lib.hid hstr; clear hstr
      go_wp2_with fail
      refine (Do_any x v _ x0 x1 x2 x3 x4 x5 k _ HR.out (by omega) H.out.at_).mono ?_
      rintro e w4 ⟨v4, rfl, ha, hf, hg⟩
      have h4 := H.out.step ha hf hg
      rw [← HST.out] at h4
      generalize hsk : Nt.runT X (k + 1) = t at *
      have HSK := Lib.hid hsk; clear hsk
      clear H HR HST c0 c1 c2 c3 c4 c5 ha hf hg
      generalize (Nt.doT (Nt.runT X k) x0 x1 x2 x3).2 = cc at *
      have H := Lib.hid h4; clear h4
      go_wp2
      go_loopg [5] 6 (fun g i wr => StrRel2 t w x v4 g i wr)
      case atStart => exact ⟨0, by omega, by omega, rfl, H.out⟩
      case round =>
        clear H
        obtain ⟨p, hp, hgp, rfl, h2⟩ := hrel
        have HGP := Lib.hid hgp; clear hgp
        have H := Lib.hid h2; clear h2
        by_cases hp6 : p < 6
        · have hpb : decide ((p : Int) < 6) = true := by simp; omega
          go_wp2
          go_loopg [6] 6 (fun g i wr => StrRel2 t w x v4 g i wr)
          case atStart => exact ⟨0, by omega, by omega, rfl, H.out⟩
          case round =>
            clear H
            obtain ⟨q, hq, hgq, rfl, h2⟩ := hrel
            have HGQ := Lib.hid hgq; clear hgq
            have H := Lib.hid h2; clear h2
            by_cases hq6 : q < 6
            · have hqb : decide ((q : Int) < 6) = true := by simp; omega
              have hpo := Nt.pathT_ok HS.out hp6 hq6
              go_wp2_with fail
              refine (Path_any x v4 t p q _ H.out.at_).mono ?_
              rintro e w6 ⟨pv, rfl, hl, hf⟩
              have h6 := H.out.keep hf
              rw [hpo.ok]
              have hlo := hpo.lo
              have hhi := hpo.hi
              have hch := hpo.ch
              clear hpo
              generalize (pathT t p q).1 = l at *
              generalize wr.heap.size = base at *
              obtain ⟨al, cl, rfl, j⟩ := ownsRow_rd hl
              clear j hf H
              have hl0 : ((l.length : Int) == 0) = false := by rw [beq_eq_false_iff_ne]; omega
              have hl6 : decide ((6 : Int) < (l.length : Int)) = false := by simp; omega
              have HLO := Lib.hid hlo; clear hlo; have HHI := Lib.hid hhi; clear hhi; have HCH := Lib.hid hch; clear hch; have H := Lib.hid h6; clear h6; have HL := Lib.hid hl; clear hl
              go_wp2
              go_loopg [9] (l.length - 1) (fun g i wr => StrRel3 t l (.slice al l.length cl) base w x v4 g i wr)
              case atStart => exact ⟨0, by have := HLO.out; omega, by omega, rfl, H.out, HL.out⟩
              case round =>
                clear H HL hl0 hl6
                obtain ⟨j, hj, hgj, rfl, h2, hl⟩ := hrel
                have HGJ := Lib.hid hgj; clear hgj
                have H := Lib.hid h2; clear h2; have HL := Lib.hid hl; clear hl
                by_cases hjl : j + 1 < l.length
                · obtain ⟨a, b, ha, hb, hne, ea, eb, hc, hbt⟩ := HCH.out j hjl
                  obtain ⟨g, rfl, ca⟩ := Sl.at HL.out (k := j) (by omega)
                  obtain ⟨g', e', cb⟩ := Sl.at HL.out (k := j + 1) hjl
                  cases e'
                  rw [ea] at ca
                  rw [eb] at cb
                  have hsub : IntKind.i64.wrap ((j : Int) + 1 - 1) = (j : Int) := by have := HHI.out; rw [IntWalk.i64_in _ (by omega)]; omega
                  have hsub2 : IntKind.i64.wrap (j : Int) = (j : Int) := IntWalk.i64_in _ (by have := HHI.out; omega)
                  have hji : (j : Int) < (l.length : Int) := by omega
                  have hjle : ((j + 1 : Nat) : Int) < (l.length : Int) := by omega
                  have hab : Nd.betB ((t.N b).bS q) ((t.N b).bD q) ((t.N a).bS q) ((t.N a).bD q) = true := hbt
                  have hcb : (t.C a b == 0) = false := by simp; omega
                  clear ea eb hbt hc
                  have HAB := Lib.hid hab; clear hab
                  go_wp2_with fail
                  refine (NBest_in x v4 t b q _ hb hq6 H.out.at_).mono ?_
                  rintro e w7 ⟨rfl, hf⟩
                  have h7 := H.out.keep hf
                  have hl7 : Sl w7 base (.slice (some ⟨g, 0, none⟩) l.length cl) l := Sl.keep HL.out hf (fun _ _ h => h)
                  have ca := cell_fr hf ca (fun h => h)
                  have cb := cell_fr hf cb (fun h => h)
                  clear H HL hf
                  have H := Lib.hid h7; clear h7; have HL := Lib.hid hl7; clear hl7
                  go_wp2_with fail
                  refine (NBest_in x v4 t a q _ ha hq6 H.out.at_).mono ?_
                  rintro e w8 ⟨rfl, hf⟩
                  have h7 := H.out.keep hf
                  have hl7 : Sl w8 base (.slice (some ⟨g, 0, none⟩) l.length cl) l := Sl.keep HL.out hf (fun _ _ h => h)
                  have ca := cell_fr hf ca (fun h => h)
                  have cb := cell_fr hf cb (fun h => h)
                  have cL := h7.at_.c0
                  clear H HL hf
                  have H := Lib.hid h7; clear h7; have HL := Lib.hid hl7; clear hl7
                  go_wp2_with fail
                  go_quiet ((first | (go_at_call 24; exact Calls.quiet_of_same (Cost_q x.L a b t.C _ ha hb H.out.at_.links)) | (go_at_call 41; exact Calls.quiet_of_same (RBetter_q1 _ _ _ _ _ HAB.out))))
                  go_wp2
                  clear hsub hsub2
                  have hhi := HHI.out
                  go_roundg (l.length - (j + 1 + 1))
                  case rel => exact ⟨j + 1, by omega, rfl, congrArg (Value.int .i64) (by unfold wrap64; omega), H.out.keep ((Fr.refl _ _).drewN _), HL.out⟩
                  case measure => have := HGJ.out; omega
                · have hjle : decide (((j + 1 : Nat) : Int) < (l.length : Int)) = false := by simp; omega
                  go_wp2
                  go_roundg (6 - (q + 1))
                  case rel => exact ⟨q + 1, by omega, rfl, by go_num, H.out⟩
                  case measure => have := HGQ.out; omega
            · obtain rfl : q = 6 := by omega
              go_wp2
              go_roundg (6 - (p + 1))
              case rel => exact ⟨p + 1, by omega, rfl, by go_num, H.out⟩
              case measure => have := HGP.out; omega
        · obtain rfl : p = 6 := by omega
          have h2 : NtR w x v4 (Nt.runT X (k + 1)) wr := by rw [HSK.out]; exact H.out
          clear H
          have H := Lib.hid h2; clear h2
          go_wp2
          go_roundg (n - (k + 1))
          case rel => exact ⟨k + 1, v4, by omega, rfl, by go_num, H.out⟩
          case measure => have := HG.out; omega
    · have hkb : decide ((k : Int) < (n : Int)) = false := by simp; omega
      go_wp2
      go_ret
      exact ⟨rfl, H.out.f⟩

set_option maxRecDepth 100000 in
set_option maxHeartbeats 2000000 in
theorem NetStraight_all (a0 : Option Addr) (n0 c0 : Nat) (X0 : Nat → Int) (w : World) (r0 : Rd w a0 (n0 * 6) X0) :
    Calls Try.prog 11 #[.slice a0 n0 c0] w (TrueFr w) := by
  by_cases hn : n0 ≤ 150
  · exact NetStraight_main a0 n0 c0 X0 w hn r0
  · clear r0
    go_enter Try.func11, Try.ntmps11
    go_wp2_with fail
    refine (netBegun_true _).mono ?_
    rintro e w1 ⟨rfl, hF⟩
    have HF := Lib.hid hF; clear hF
    go_wp2
    go_ret
    exact ⟨rfl, HF.out⟩
end Go.Proofs.Ytdpgbgapelgomaa
