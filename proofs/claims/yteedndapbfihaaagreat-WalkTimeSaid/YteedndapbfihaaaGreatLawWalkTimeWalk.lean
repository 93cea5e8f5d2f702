/- The walk of WalkTime. -/
import Derived.Test.YteedndapbfihaaaGreatB40
namespace Go.Proofs.YteedndapbfihaaaGreat
open Go.RowKit Go.Deep

theorem Wk.trip_nodes (h : Int → Int) (C C' : Nat → Nat → Int) : ∀ (f : Nat) (out : List Int) (c c' p : Int), (Wk.tripF h C f out c p).1 = (Wk.tripF h C' f out c' p).1 ∧ (Wk.tripF h C f out c p).2.2 = (Wk.tripF h C' f out c' p).2.2
  | 0, _, _, _, _ => ⟨rfl, rfl⟩
  | f + 1, out, c, c', p => by
    unfold Wk.tripF
    split
    · split
      · exact ⟨rfl, rfl⟩
      · split
        · exact ⟨rfl, rfl⟩
        · exact Wk.trip_nodes h C C' f _ _ _ _
    · exact ⟨rfl, rfl⟩
/-- What a post's steps leave as it is. -/
def OfP (q : PIds) (v tv : Value) (wr : World) (i : Nat) : Prop := ¬ FtP q v tv i ∧ i < wr.heap.size
theorem OfP.new {q : PIds} {v tv : Value} {s : Fb.PT} {w wr : World} {i : Nat} (h : PAt w q v tv s) (hi : w.heap.size ≤ i) (hl : i < wr.heap.size) : OfP q v tv wr i :=
  ⟨fun e => by have := h.lt e; omega, hl⟩
theorem OfP.step {q : PIds} {v tv v' tv' : Value} {wr wx : World} {i : Nat} (h : OfP q v tv wr i) (hz : wr.heap.size ≤ wx.heap.size) (hg : ∀ i, FtP q v' tv' i → FtP q v tv i ∨ wr.heap.size ≤ i) : OfP q v' tv' wx i :=
  ⟨fun e => by
    rcases hg i e with k | k
    · exact h.1 k
    · have := h.2; omega, Nat.lt_of_lt_of_le h.2 hz⟩
theorem OfP.keep {q : PIds} {v tv : Value} {wr wx : World} {i : Nat} (h : OfP q v tv wr i) (hz : Fr NoB wr wx) : OfP q v tv wx i := ⟨h.1, Nat.lt_of_lt_of_le h.2 hz.size⟩
/-- A post, a walk as it was, and where a letter went. -/
structure TmK (w : World) (q : PIds) (v tv : Value) (s : Fb.PT) (b : Nat) (T : Nat → Nat) (V : Nat → Value) (L : Nat → List Tb.Rt) (z : Nat) (al : Option Addr) (nc : Nat) (l : List Int) (e : Int) (wr : World) : Prop where
  p : PR w q v tv s wr
  k : WkAt wr b q.p T V L
  ko : ∀ i, FtK b T V i → OfP q v tv wr i
  d0 : wr.cell? ⟨z, 0, none⟩ = some (.slice al l.length nc)
  d2 : wr.cell? ⟨z, 2, none⟩ = some (.int .i64 e)
  zo : OfP q v tv wr z
  rd : Rd wr al l.length (fun i => l.getD i 0)
  ro : ∀ p, al = some p → OfP q v tv wr p.block
theorem TmK.keep {w wr wx : World} {q : PIds} {v tv : Value} {s : Fb.PT} {b : Nat} {T : Nat → Nat} {V : Nat → Value} {L : Nat → List Tb.Rt} {z : Nat} {al : Option Addr} {nc : Nat} {l : List Int} {e : Int} (h : TmK w q v tv s b T V L z al nc l e wr) (hf : Fr NoB wr wx) : TmK w q v tv s b T V L z al nc l e wx :=
  ⟨h.p.keep hf, h.k.keep0 hf, fun i hi => (h.ko i hi).keep hf, cell_fr' hf h.d0 (fun h => h), cell_fr' hf h.d2 (fun h => h), h.zo.keep hf, Rd.keep h.rd hf (fun _ _ h => h), fun p hp => (h.ro p hp).keep hf⟩
theorem TmK.step {w wr wx : World} {q : PIds} {v tv v' tv' : Value} {s s' : Fb.PT} {b : Nat} {T : Nat → Nat} {V : Nat → Value} {L : Nat → List Tb.Rt} {z : Nat} {al : Option Addr} {nc : Nat} {l : List Int} {e : Int} (h : TmK w q v tv s b T V L z al nc l e wr) (ha : PAt wx q v' tv' s') (hf : Fr (FtP q v tv) wr wx) (hg : ∀ i, FtP q v' tv' i → FtP q v tv i ∨ wr.heap.size ≤ i) : TmK w q v' tv' s' b T V L z al nc l e wx :=
  ⟨h.p.step ha hf hg, h.k.keep hf (fun i hi => (h.ko i hi).1), fun i hi => (h.ko i hi).step hf.size hg, cell_fr' hf h.d0 h.zo.1, cell_fr' hf h.d2 h.zo.1, h.zo.step hf.size hg, Rd.keep h.rd hf (fun p hp => (h.ro p hp).1), fun p hp => (h.ro p hp).step hf.size hg⟩
def TmRel (w : World) (q : PIds) (S : Fb.PT) (X : Nat → Int) (n : Nat) (b : Nat) (T : Nat → Nat) (V : Nat → Value) (z : Nat) (al : Option Addr) (nc : Nat) (l : List Int) (e : Int) (i : Value) (wr : World) : Prop :=
  ∃ (k : Nat) (v tv : Value), k ≤ n ∧ i = .int .i64 k ∧ TmK w q v tv (Fb.runF S X k) b T V (tabOf true S) z al nc l e wr
set_option maxRecDepth 100000 in
set_option maxHeartbeats 8000000 in
theorem WalkTime_main (a0 : Option Addr) (n0 c0 : Nat) (X0 : Nat → Int) (a1 : Option Addr) (n1 c1 : Nat) (X1 : Nat → Int) (src x : Int) (w : World) (hn0 : n0 ≤ 100) (hn1 : n1 ≤ 100) (r0 : Rd w a0 (n0 * 6) X0) (r1 : Rd w a1 (n1 * 6) X1) :
    Calls Tryz.prog 8 #[.slice a0 n0 c0, .slice a1 n1 c1, .int .i64 src, .int .i64 x] w (TrueFr w) := by
  have hnb : decide ((100 : Int) < (n0 : Int)) = false := by simp; omega
  have hnb1 : decide ((100 : Int) < (n1 : Int)) = false := by simp; omega
  have R0 := Lib.hid r0; clear r0; have R1 := Lib.hid r1; clear r1
  go_enter Tryz.func8, Tryz.ntmps8
  go_wp2_with fail
  refine (walkBegun_true _).mono ?_
  rintro e w1 ⟨rfl, hf1⟩
  have HF1 := Lib.hid hf1; clear hf1
  go_wp2_with fail
  refine (posts_any a0 n0 c0 X0 _ (by omega) (Rd.keep R0.out HF1.out (fun _ _ h => h))).mono ?_
  rintro e w2 ⟨q, v, tv, y, u, al, rfl, h2⟩
  have hok := Fb.POk.runF Fb.POk.begun X0 n0
  have h3 : PR w q v tv (Fb.runF Fb.begunP X0 n0) w2 := ⟨h2.p.at_, HF1.out.trans h2.p.f, fun i hi => Nat.le_trans HF1.out.size (h2.p.new i hi)⟩
  clear h2 HF1 R0
  generalize Fb.runF Fb.begunP X0 n0 = S at *
  have HOK := Lib.hid hok; clear hok; have H := Lib.hid h3; clear h3
  go_wp2_with fail
  refine (NewW true q v tv S _ _ HOK.out H.out.at_).mono ?_
  rintro e w3 ⟨b, T, V, rfl, hw, hf, hnew⟩
  have HKO : Hid (∀ i, FtK b T V i → OfP q v tv w3 i) := fun i hi => OfP.new H.out.at_ (hnew i hi) (hw.lt hi)
  have H3 := Lib.hid (H.out.keep hf)
  have HW := Lib.hid hw
  clear H hf hw hnew
  have hlen := Wk.trip_len (Wk.hopA S.t (Tb.look S.o x)) S.t.C 7 [] 0 src
  have hg1 := WGo_tab HOK.out HOK.out src x w3 HW.out H3.out.at_
  have hg2 := fun (m : Nat) (s' : Fb.PT) (hs' : Fb.POk s' m) (v' tv' : Value) W (hk : WkAt W b q.p T V (tabOf true S)) (hp : PAt W q v' tv' s') => WGo_tab HOK.out hs' src x W hk hp
  have hsame := fun C' => Wk.trip_nodes (Wk.hopA S.t (Tb.look S.o x)) S.t.C C' 7 [] 0 0 src
  unfold Wk.tripT at hg1 hg2
  generalize Wk.tripF (Wk.hopA S.t (Tb.look S.o x)) S.t.C 7 [] 0 src = R at *
  obtain ⟨l, co, e0⟩ := R
  dsimp only [List.length_nil] at hlen hsame
  have HG1 := Lib.hid hg1; clear hg1; have HG2 := Lib.hid hg2; clear hg2; have HSAME := Lib.hid hsame; clear hsame
  go_wp2_with fail
  refine HG1.out.mono ?_
  rintro e1 w5 ⟨nv, rfl, hsl, hf⟩
  obtain ⟨al5, nc5, rfl, hr5, hb5⟩ := hsl.rd
  have HRO : Hid (∀ p, al5 = some p → OfP q v tv w5 p.block) := fun p hp => by
    subst hp
    have hlt := World.ownsRow.lt hsl p.block (by
      rcases hsl.shape with ⟨h1, _⟩ | ⟨g, cap, h1, _⟩
      · cases h1
      · cases h1; rfl)
    exact OfP.new H3.out.at_ hlt.1 hlt.2
  have H5 := Lib.hid (H3.out.keep hf)
  have HW5 := Lib.hid (HW.out.keep0 hf)
  have HKO5 : Hid (∀ i, FtK b T V i → OfP q v tv w5 i) := fun i hi => (HKO.out i hi).keep hf
  clear H3 HW HKO HG1 hf hsl hb5
  dsimp only
  have HR5 := Lib.hid hr5; clear hr5
  go_upto_region 8 with fail
  refine wp_name fun w7 hw7 => ?_
  have d0 : w7.cell? ⟨w5.heap.size, 0, none⟩ = some (.slice al5 l.length nc5) := by rw [hw7]; simp
  have d2 : w7.cell? ⟨w5.heap.size, 2, none⟩ = some (.int .i64 e0) := by rw [hw7]; simp
  have hF : Fr NoB w5 w7 := by rw [hw7]; (repeat (first | exact Fr.refl _ _ | refine Fr.alloc ?_ _ | refine Fr.setNew ?_ (by omega) _ _ | refine Fr.drewN ?_ _ | refine Fr.drew ?_))
  clear hw7
  have h7 : TmK w q v tv (Fb.runF S X1 0) b T V (tabOf true S) w5.heap.size al5 nc5 l e0 w7 :=
    ⟨H5.out.keep hF, HW5.out.keep0 hF, fun i hi => (HKO5.out i hi).keep hF, d0, d2, OfP.new H5.out.at_ (Nat.le_refl _) (World.block_lt_of_cell? w7 _ d0), Rd.keep HR5.out hF (fun _ _ h => h), fun p hp => (HRO.out p hp).keep hF⟩
  clear H5 HW5 HKO5 HR5 HRO hF d0 d2
  generalize w5.heap.size = z at *
  have H := Lib.hid h7; clear h7
  go_wp2
  go_loopw [14] (fun i wr => TmRel w q S X1 n1 b T V z al5 nc5 l e0 i wr) (fun i _ => n1 - (intOf i).toNat)
  case atStart => exact ⟨0, v, tv, by omega, rfl, H.out⟩
  case round =>
    clear H
    obtain ⟨k, v, tv, hk, rfl, h2⟩ := hrel
    have H := Lib.hid h2; clear h2
    have HR := Lib.hid (HOK.out.runF X1 k)
    by_cases hkn : k < n1
    · have hkb : decide ((k : Int) < (n1 : Int)) = true := by simp; omega
      obtain ⟨b0, o0, rfl, c0⟩ := R1.out (k * 6) (by omega)
      obtain ⟨b1, o1, e1, c1⟩ := R1.out (k * 6 + 1) (by omega)
      obtain ⟨b2, o2, e2, c2⟩ := R1.out (k * 6 + 2) (by omega)
      obtain ⟨b3, o3, e3, c3⟩ := R1.out (k * 6 + 3) (by omega)
      obtain ⟨b4, o4, e4, c4⟩ := R1.out (k * 6 + 4) (by omega)
      obtain ⟨b5, o5, e5, c5⟩ := R1.out (k * 6 + 5) (by omega)
      cases e1; cases e2; cases e3; cases e4; cases e5
      have hst : Fb.runF S X1 (k + 1) = (Fb.doP (Fb.runF S X1 k) (X1 (k * 6)) (X1 (k * 6 + 1)) (X1 (k * 6 + 2)) (X1 (k * 6 + 3)) (X1 (k * 6 + 4)) (X1 (k * 6 + 5))).1 := rfl
      generalize X1 (k * 6) = x0 at *
      generalize X1 (k * 6 + 1) = x1 at *
      generalize X1 (k * 6 + 2) = x2 at *
      generalize X1 (k * 6 + 3) = x3 at *
      generalize X1 (k * 6 + 4) = x4 at *
      generalize X1 (k * 6 + 5) = x5 at *
      generalize hS1 : Fb.runF S X1 (k + 1) = S1 at *
      generalize Fb.runF S X1 k = S0 at *
      have HS1 := Lib.hid hS1; clear hS1
      have c0 := cell_fr H.out.p.f c0 (fun h => h)
      have c1 := cell_fr H.out.p.f c1 (fun h => h)
      have c2 := cell_fr H.out.p.f c2 (fun h => h)
      have c3 := cell_fr H.out.p.f c3 (fun h => h)
      have c4 := cell_fr H.out.p.f c4 (fun h => h)
      have c5 := cell_fr H.out.p.f c5 (fun h => h)
      rw [← Nat.add_assoc] at c1 c2 c3 c4 c5
      have hpd := PDo_any q v tv S0 x0 x1 x2 x3 x4 x5 (0 + n0 + k) wr HR.out (by omega) H.out.p.at_
      unfold PDoSaid step6 at hpd
      rw [← hst] at hpd
      clear hst
      generalize (Fb.doP S0 x0 x1 x2 x3 x4 x5).2 = cc at *
      have HPD := Lib.hid hpd; clear hpd
      go_wp2_with fail
      refine HPD.out.mono ?_
      rintro e w4 ⟨v4, tv4, rfl, ha, hf, hg⟩
      have H4 := Lib.hid (H.out.step ha hf hg)
      clear H HR HPD ha hf hg c0 c1 c2 c3 c4 c5
      go_wp2
      go_roundw
      case rel => exact ⟨k + 1, v4, tv4, by omega, by go_num, by rw [HS1.out]; exact H4.out⟩
      case measure => simp [intOf]; omega
    · obtain rfl : k = n1 := by omega
      have hkb : decide ((k : Int) < (k : Int)) = false := by simp
      have hg3 := HG2.out _ _ HR.out v tv wr H.out.k H.out.p.at_
      generalize Fb.runF S X1 k = S0 at *
      obtain ⟨q1, q2⟩ := HSAME.out S0.t.C
      generalize Wk.tripF (Wk.hopA S.t (Tb.look S.o x)) S0.t.C 7 [] 0 src = R at *
      obtain ⟨l', co', e'⟩ := R
      dsimp only at q1 q2
      subst q1 q2
      have HG3 := Lib.hid hg3; clear hg3
      go_wp2_with fail
      refine HG3.out.mono ?_
      rintro e1 w8 ⟨nv, rfl, hsl, hf⟩
      obtain ⟨al8, nc8, rfl, hr8, jj⟩ := hsl.rd
      have H8 := Lib.hid (H.out.keep hf)
      clear H HR HG3 HG2 HSAME hf hsl jj
      dsimp only
      have HR8 := Lib.hid hr8; clear hr8
      go_upto_region 13 with fail
      refine wp_name fun w9 hw9 => ?_
      have f0 : w9.cell? ⟨w8.heap.size, 0, none⟩ = some (.slice al8 l.length nc8) := by rw [hw9]; simp
      have f2 : w9.cell? ⟨w8.heap.size, 2, none⟩ = some (.int .i64 e0) := by rw [hw9]; simp
      have hF : Fr NoB w8 w9 := by rw [hw9]; (repeat (first | exact Fr.refl _ _ | refine Fr.alloc ?_ _ | refine Fr.setNew ?_ (by omega) _ _ | refine Fr.drewN ?_ _ | refine Fr.drew ?_))
      clear hw9
      have H9 := Lib.hid (H8.out.keep hF)
      have HR9 := Lib.hid (Rd.keep HR8.out hF (fun _ _ h => h))
      clear H8 HR8 hF
      generalize w8.heap.size = z8 at *
      have d0 := H9.out.d0
      have d2 := H9.out.d2
      have hee : (e0 == e0) = true := by simp
      go_wp2_with fail
      refine (SameI_self al5 al8 l.length nc5 nc8 (fun i => l.getD i 0) _ (by omega) H9.out.rd HR9.out).mono ?_
      rintro e1 w10 ⟨rfl, hf⟩
      have H10 := Lib.hid (H9.out.p.f.trans hf)
      clear H9 HR9 hf d0 d2 f0 f2
      go_wp2
      go_ret
      exact ⟨rfl, H10.out⟩
set_option maxRecDepth 100000 in
set_option maxHeartbeats 2000000 in
theorem WalkTime_all (a0 : Option Addr) (n0 c0 : Nat) (X0 : Nat → Int) (a1 : Option Addr) (n1 c1 : Nat) (X1 : Nat → Int) (a2 a3 : Int) (w : World) (r0 : Rd w a0 (n0 * 6) X0) (r1 : Rd w a1 (n1 * 6) X1) :
    Calls Tryz.prog 8 #[.slice a0 n0 c0, .slice a1 n1 c1, .int .i64 a2, .int .i64 a3] w (TrueFr w) := by
  by_cases hn : n0 ≤ 100
  · by_cases hm : n1 ≤ 100
    · exact WalkTime_main a0 n0 c0 X0 a1 n1 c1 X1 a2 a3 w hn hm r0 r1
    · clear r0 r1
      have hnb : decide ((100 : Int) < (n0 : Int)) = false := by simp; omega
      have hnb1 : decide ((100 : Int) < (n1 : Int)) = true := by simp; omega
      go_enter Tryz.func8, Tryz.ntmps8
      go_wp2_with fail
      refine (walkBegun_true _).mono ?_
      rintro e w1 ⟨rfl, hF⟩
      have HF := Lib.hid hF; clear hF
      go_wp2
      go_ret
      exact ⟨rfl, HF.out⟩
  · clear r0 r1
    have hnb : decide ((100 : Int) < (n0 : Int)) = true := by simp; omega
    go_enter Tryz.func8, Tryz.ntmps8
    go_wp2_with fail
    refine (walkBegun_true _).mono ?_
    rintro e w1 ⟨rfl, hF⟩
    have HF := Lib.hid hF; clear hF
    go_wp2
    go_ret
    exact ⟨rfl, HF.out⟩
end Go.Proofs.YteedndapbfihaaaGreat
