/- The walk of NodeBest. -/
import Derived.Test.YtdpgbgapelgomaaNd12
import Derived.Test.YtdpgbgapelgomaaNdMath6
import Derived.Deep.CutBlock
namespace Go.Proofs.Ytdpgbgapelgomaa
open Go.RowKit Go.Deep

theorem RBetter_r (a b c d : Int) (r : Bool) (w : World) (h : Nd.betB a b c d = r) :
    Calls Try.prog 41 #[.int .i64 a, .int .i64 b, .int .i64 c, .int .i64 d] w fun e w' => e = .returned (.bool r) ∧ w = w' := by
  subst h; exact RBetter_any a b c d w
theorem RBetter_rq (a b c d : Int) (r : Bool) (w : World) (h : Nd.betB a b c d = r) :
    Calls Try.prog 41 #[.int .i64 a, .int .i64 b, .int .i64 c, .int .i64 d] w fun e w' => e = .returned (.bool r) ∧ w' = w := by
  subst h; exact RBetter_q a b c d w
/-- What was said, of all, by all: 72 cells. -/
def sdF (sS sD : Nat → Nat → Int) (j : Nat) : Int := if j % 2 = 0 then sS (j / 12) (j % 12 / 2) else sD (j / 12) (j % 12 / 2)
def SdAt (w : World) (p : Nat) (sS sD : Nat → Nat → Int) : Prop := w.rowIs p 65 72 (I (sdF sS sD))
theorem sdF_0 (sS sD : Nat → Nat → Int) {f k : Nat} (hk : k < 6) : sdF sS sD (f * 12 + k * 2) = sS f k := by
  unfold sdF; rw [if_pos (by omega), show (f * 12 + k * 2) / 12 = f from by omega, show (f * 12 + k * 2) % 12 / 2 = k from by omega]
theorem sdF_1 (sS sD : Nat → Nat → Int) {f k : Nat} (hk : k < 6) : sdF sS sD (f * 12 + k * 2 + 1) = sD f k := by
  unfold sdF; rw [if_neg (by omega), show (f * 12 + k * 2 + 1) / 12 = f from by omega, show (f * 12 + k * 2 + 1) % 12 / 2 = k from by omega]
theorem SdAt.c0 {w : World} {p : Nat} {sS sD : Nat → Nat → Int} (h : SdAt w p sS sD) {f k : Nat} (hf : f < 6) (hk : k < 6) : w.cell? ⟨p, f * 12 + k * 2, none⟩ = some (.int .i64 (sS f k)) := by
  have := rowI_cell h (i := f * 12 + k * 2) (by omega)
  rw [sdF_0 _ _ hk] at this; exact this
theorem SdAt.c1 {w : World} {p : Nat} {sS sD : Nat → Nat → Int} (h : SdAt w p sS sD) {f k : Nat} (hf : f < 6) (hk : k < 6) : w.cell? ⟨p, f * 12 + k * 2 + 1, none⟩ = some (.int .i64 (sD f k)) := by
  have := rowI_cell h (i := f * 12 + k * 2 + 1) (by omega)
  rw [sdF_1 _ _ hk] at this; exact this
theorem SdAt.set {w : World} {p : Nat} {sS sD : Nat → Nat → Int} (h : SdAt w p sS sD) {f k : Nat} (hk : k < 6) (q d : Int) :
    SdAt ((w.setCell ⟨p, f * 12 + k * 2, none⟩ (.int .i64 q)).setCell ⟨p, f * 12 + k * 2 + 1, none⟩ (.int .i64 d)) p (Nd.up2 sS f k q) (Nd.up2 sD f k d) :=
  rowI_set (rowI_set h (f * 12 + k * 2) _ (g := fun j => if j = f * 12 + k * 2 then q else sdF sS sD j) (fun j _ => rfl)) (f * 12 + k * 2 + 1) _ (fun j hj => by
    by_cases h1 : j = f * 12 + k * 2 + 1
    · subst h1; rw [if_pos rfl, sdF_1 _ _ hk]; simp [Nd.up2]
    · rw [if_neg h1]
      by_cases h0 : j = f * 12 + k * 2
      · subst h0; rw [if_pos rfl, sdF_0 _ _ hk]; simp [Nd.up2]
      · rw [if_neg h0]
        unfold sdF Nd.up2
        by_cases h2 : j % 2 = 0
        · rw [if_pos h2, if_pos h2, if_neg (by omega)]
        · rw [if_neg h2, if_neg h2, if_neg (by omega)])
def CsAt (w : World) (p : Nat) (s : Nd.NS) : Prop := w.rowIs p 32 6 (I s.cost)
theorem CsAt.set {w : World} {p : Nat} {s s' : Nd.NS} (h : CsAt w p s) {f : Nat} {c : Int} (e : s'.cost = Nd.up s.cost f c) : CsAt (w.setCell ⟨p, f, none⟩ (.int .i64 c)) p s' :=
  rowI_set h f c (fun j _ => by rw [e]; rfl)
theorem CsAt.same {w : World} {p : Nat} {s s' : Nd.NS} (h : CsAt w p s) (e : s'.cost = s.cost) : CsAt w p s' := by unfold CsAt; rw [e]; exact h
/-- The bests as they were, of the first k nodes. -/
def wbF (s : Nd.NS) (k : Nat) (j : Nat) : Int := if j < k * 2 then (if j % 2 = 0 then s.bS (j / 2) else s.bD (j / 2)) else 0
def WbAt (w : World) (p : Nat) (s : Nd.NS) (k : Nat) : Prop := w.rowIs p 64 12 (I (wbF s k))
theorem WbAt.c0 {w : World} {p : Nat} {s : Nd.NS} (h : WbAt w p s 6) {k : Nat} (hk : k < 6) : w.cell? ⟨p, k * 2, none⟩ = some (.int .i64 (s.bS k)) := by
  have := rowI_cell h (i := k * 2) (by omega)
  rw [wbF, if_pos (by omega), if_pos (by omega), show k * 2 / 2 = k from by omega] at this
  exact this
theorem WbAt.c1 {w : World} {p : Nat} {s : Nd.NS} (h : WbAt w p s 6) {k : Nat} (hk : k < 6) : w.cell? ⟨p, k * 2 + 1, none⟩ = some (.int .i64 (s.bD k)) := by
  have := rowI_cell h (i := k * 2 + 1) (by omega)
  rw [wbF, if_pos (by omega), if_neg (by omega), show (k * 2 + 1) / 2 = k from by omega] at this
  exact this
theorem WbAt.any {w : World} {p : Nat} {s : Nd.NS} {k0 : Nat} (h : WbAt w p s k0) {i : Nat} (hi : i < 12) : ∃ v, w.cell? ⟨p, i, none⟩ = some (.int .i64 v) := ⟨_, rowI_cell h hi⟩
theorem WbAt.set {w : World} {p : Nat} {s : Nd.NS} {k : Nat} (h : WbAt w p s k) :
    WbAt ((w.setCell ⟨p, k * 2, none⟩ (.int .i64 (s.bS k))).setCell ⟨p, k * 2 + 1, none⟩ (.int .i64 (s.bD k))) p s (k + 1) :=
  rowI_set (rowI_set h (k * 2) _ (g := fun j => if j = k * 2 then s.bS k else wbF s k j) (fun j _ => rfl)) (k * 2 + 1) _ (fun j hj => by
    by_cases h1 : j = k * 2 + 1
    · subst h1; rw [if_pos rfl, wbF, if_pos (by omega), if_neg (by omega), show (k * 2 + 1) / 2 = k from by omega]
    · rw [if_neg h1]
      by_cases h0 : j = k * 2
      · subst h0; rw [if_pos rfl, wbF, if_pos (by omega), if_pos (by omega), show k * 2 / 2 = k from by omega]
      · rw [if_neg h0]
        unfold wbF
        have : j < (k + 1) * 2 ↔ j < k * 2 := by omega
        simp only [this])
/-- A step in a block of its own. -/
def B7 (w : World) (p : Nat) (y : Nat → Int) : Prop := w.rowIs p 51 7 (I y)
theorem zcS : Try.zeroCells65 = Array.replicate 72 (.int .i64 0) := by kernel_rfl
theorem row_alloc2 (w : World) (o : Obj) (n : Nat) (v : Value) (t : TypeId) : ((w.alloc o).alloc (.cells (Array.replicate n v) t)).rowIs (w.heap.size + 1) t n (fun _ => v) := by
  have h := rowIs_new (w.alloc o) n v t
  rwa [show (w.alloc o).heap.size = w.heap.size + 1 from by simp] at h
structure Bl where
  N : Nat
  C : Nat
  S : Nat
structure BlOk (w : World) (B : Bl) : Prop where
  n : w.heap.size ≤ B.N
  nc : B.N < B.C
  cs : B.C < B.S
structure Hp (w : World) (B : Bl) (s : Nd.NS) (sS sD : Nat → Nat → Int) (wr : World) : Prop where
  n : NAt wr B.N 110 s
  c : CsAt wr B.C s
  sd : SdAt wr B.S sS sD
  said : Nd.Said s sS sD
  f : Fr NoB w wr
theorem Hp.keep {w wr wx : World} {B : Bl} {s : Nd.NS} {sS sD : Nat → Nat → Int} (h : Hp w B s sS sD wr) (hf : Fr NoB wr wx) : Hp w B s sS sD wx :=
  ⟨h.n.keep hf (fun h => h), hf.row h.c (fun h => h), hf.row h.sd (fun h => h), h.said, h.f.trans hf⟩
theorem Hp.drewN {w wr : World} {B : Bl} {s : Nd.NS} {sS sD : Nat → Nat → Int} (h : Hp w B s sS sD wr) (m : Nat) : Hp w B s sS sD (wr.drewN m) := ⟨h.n, h.c, h.sd, h.said, h.f.drewN m⟩
def BestRel1 (me : Nat) (X : Nat → Int) (n : Nat) (w : World) (B : Bl) (g : Nat) (i : Value) (wr : World) : Prop :=
  ∃ (k : Nat) (sS sD : Nat → Nat → Int), k ≤ n ∧ g = n - k ∧ i = .int .i64 k ∧ Hp w B (Nd.runN me X k) sS sD wr
def BestRel2 (s : Nd.NS) (sS sD : Nat → Nat → Int) (px pw : Nat) (y : Nat → Int) (w : World) (B : Bl) (g : Nat) (i : Value) (wr : World) : Prop :=
  ∃ k : Nat, k ≤ 6 ∧ g = 6 - k ∧ i = .int .i64 k ∧ Hp w B s sS sD wr ∧ B7 wr px y ∧ WbAt wr pw s k
def BestCut (s s' : Nd.NS) (k pw : Nat) (w : World) (B : Bl) (i : Value) (wr : World) : Prop :=
  ∃ sS sD : Nat → Nat → Int, i = .int .i64 k ∧ Hp w B s' sS sD wr ∧ WbAt wr pw s 6
def BestRel3 (s s' : Nd.NS) (sS sD : Nat → Nat → Int) (pw : Nat) (w : World) (B : Bl) (g : Nat) (i : Value) (wr : World) : Prop :=
  ∃ k : Nat, k ≤ 6 ∧ g = 6 - k ∧ i = .int .i64 k ∧ Hp w B s' sS sD wr ∧ WbAt wr pw s 6

set_option maxRecDepth 100000 in
set_option maxHeartbeats 8000000 in
theorem NodeBest_main (me : Nat) (a0 : Option Addr) (n c : Nat) (X : Nat → Int) (w : World) (hn : n ≤ 200) (hme : me < 6) (hX : Rd w a0 (n * 7) X) :
    Calls Try.prog 8 #[.int .i64 me, .slice a0 n c] w (TrueFr w) := by
  have HX := Lib.hid hX; clear hX
  go_enter Try.func8, Try.ntmps8
  go_wp2_with fail
  refine (nodeBegun_true _).mono ?_
  rintro e w1 ⟨rfl, hF⟩
  have HF := Lib.hid hF; clear hF
  go_wp2_with fail
  refine (New_yes me _ hme).mono ?_
  rintro e w2 ⟨rfl, hN, hF⟩
  have hNz := HF.out.size
  have hNl := hN.lt
  have hF := HF.out.trans hF
  clear HF
  have HN := Lib.hid hN; clear hN; have HF := Lib.hid hF; clear hF
  go_wp2
  refine wp_name fun w3 hw3 => ?_
  have hf : Fr NoB w2 w3 := by rw [hw3]; exact ((Fr.refl _ _).alloc _).alloc _
  have hp : Hp w ⟨w1.heap.size, w2.heap.size, w2.heap.size + 1⟩ (Nd.runN me X 0) (fun _ _ => 0) (fun _ _ => 0) w3 := by
    refine ⟨HN.out.keep hf (fun h => h), ?_, ?_, Nd.Said.fresh _ _, HF.out.trans hf⟩
    · rw [hw3]
      exact World.rowIs.alloc ((rowIs_new w2 6 (.int .i64 0) 32).congr (fun i hi => by simp [I, Nd.runN, Nd.fresh, Nd.own, Nd.newK])) _
    · rw [hw3, zcS]
      exact (row_alloc2 w2 _ 72 (.int .i64 0) 65).congr (g := I (sdF (fun _ _ => 0) (fun _ _ => 0))) (fun i hi => by simp [I, sdF])
  have hb : BlOk w ⟨w1.heap.size, w2.heap.size, w2.heap.size + 1⟩ := ⟨hNz, hNl, Nat.lt_succ_self _⟩
  clear hw3 hf HN HF hNz hNl
  generalize w2.heap.size = pC at *
  generalize pC + 1 = pS at *
  generalize w1.heap.size = pN at *
  have hnc : pN < pC := hb.nc
  have hcs : pC < pS := hb.cs
  have hnz : w.heap.size ≤ pN := hb.n
  have HP := Lib.hid hp; clear hp; have HB := Lib.hid hb; clear hb; have HNC := Lib.hid hnc; clear hnc; have HCS := Lib.hid hcs; clear hcs; have HNZ := Lib.hid hnz; clear hnz
  go_loopg [8] n (fun g i wr => BestRel1 me X n w ⟨pN, pC, pS⟩ g i wr)
  case atStart => exact ⟨0, _, _, by omega, by omega, rfl, HP.out⟩
  case round =>
    clear HP
    obtain ⟨k, sS, sD, hk, hgk, rfl, hp⟩ := hrel
    have HG := Lib.hid hgk; clear hgk
    have HP := Lib.hid hp; clear hp
    have HR := Lib.hid (Nd.runN_run hme X k)
    have HS := Lib.hid (Nd.runN_bst hme X k)
    by_cases hkn : k < n
    · have hkb : decide ((k : Int) < (n : Int)) = true := by simp; omega
      obtain ⟨b0, o0, rfl, c0⟩ := HX.out (k * 7) (by omega)
      obtain ⟨b1, o1, e1, c1⟩ := HX.out (k * 7 + 1) (by omega)
      obtain ⟨b2, o2, e2, c2⟩ := HX.out (k * 7 + 2) (by omega)
      obtain ⟨b3, o3, e3, c3⟩ := HX.out (k * 7 + 3) (by omega)
      obtain ⟨b4, o4, e4, c4⟩ := HX.out (k * 7 + 4) (by omega)
      obtain ⟨b5, o5, e5, c5⟩ := HX.out (k * 7 + 5) (by omega)
      obtain ⟨b6, o6, e6, c6⟩ := HX.out (k * 7 + 6) (by omega)
      cases e1; cases e2; cases e3; cases e4; cases e5; cases e6
      have hst : Nd.runN me X (k + 1) = Nd.stepN (Nd.runN me X k) (X (k * 7)) (X (k * 7 + 1)) (X (k * 7 + 2)) (X (k * 7 + 4)) (X (k * 7 + 5)) (X (k * 7 + 6)) := rfl
      have hR1 := Nd.runN_run hme X (k + 1)
      have hS1 := Nd.runN_bst hme X (k + 1)
      have hW1 := Nd.runN_wy hme X (k + 1)
      have hNW := fun j => Nd.NW.step HS.out (X (k * 7)) (X (k * 7 + 1)) (X (k * 7 + 2)) (X (k * 7 + 4)) (X (k * 7 + 5)) (X (k * 7 + 6)) j
      rw [← hst] at hNW
      have hsm : (Nd.runN me X (k + 1)).me = me := Nd.runN_me me X (k + 1)
      generalize X (k * 7) = x0 at *
      generalize X (k * 7 + 1) = x1 at *
      generalize X (k * 7 + 2) = x2 at *
      generalize X (k * 7 + 3) = x3 at *
      generalize X (k * 7 + 4) = x4 at *
      generalize X (k * 7 + 5) = x5 at *
      generalize X (k * 7 + 6) = x6 at *
      have HST := Lib.hid hst; clear hst; have HR1 := Lib.hid hR1; clear hR1; have HS1 := Lib.hid hS1; clear hS1; have HW1 := Lib.hid hW1; clear hW1; have HNW := Lib.hid hNW; clear hNW; have HSM := Lib.hid hsm; clear hsm
      have c0 := cell_fr HP.out.f c0 (fun h => h)
      have c1 := cell_fr HP.out.f c1 (fun h => h)
      have c2 := cell_fr HP.out.f c2 (fun h => h)
      have c3 := cell_fr HP.out.f c3 (fun h => h)
      have c4 := cell_fr HP.out.f c4 (fun h => h)
      have c5 := cell_fr HP.out.f c5 (fun h => h)
      have c6 := cell_fr HP.out.f c6 (fun h => h)
      rw [← Nat.add_assoc] at c1 c2 c3 c4 c5 c6
      go_upto_region 12 with fail
      refine wp_name fun w4 hw4 => ?_
      have hf : Fr NoB wr w4 := by rw [hw4]; exact (Fr.refl _ _).alloc _
      obtain ⟨y, hy⟩ : ∃ y : Nat → Int, y = fun i => match i with | 0 => x0 | 1 => x1 | 2 => x2 | 3 => x3 | 4 => x4 | 5 => x5 | _ => x6 := ⟨_, rfl⟩
      have y0 : y 0 = x0 := congrFun hy 0
      have y1 : y 1 = x1 := congrFun hy 1
      have y2 : y 2 = x2 := congrFun hy 2
      have y3 : y 3 = x3 := congrFun hy 3
      have y4 : y 4 = x4 := congrFun hy 4
      have y5 : y 5 = x5 := congrFun hy 5
      have y6 : y 6 = x6 := congrFun hy 6
      have hb7 : B7 w4 wr.heap.size y := by
        rw [hw4]
        refine World.rowIs_alloc wr _ _ (I y) (fun i hi => ?_)
        match i, hi with
        | 0, _ => rw [I, y0]; rfl
        | 1, _ => rw [I, y1]; rfl
        | 2, _ => rw [I, y2]; rfl
        | 3, _ => rw [I, y3]; rfl
        | 4, _ => rw [I, y4]; rfl
        | 5, _ => rw [I, y5]; rfl
        | 6, _ => rw [I, y6]; rfl
      have hp := HP.out.keep hf
      have hpx : pS < wr.heap.size := World.rowIs.lt HP.out.sd
      clear hw4 hf HP c0 c1 c2 c3 c4 c5 c6 hy
      generalize wr.heap.size = px at *
      have HP := Lib.hid hp; clear hp; have HB7 := Lib.hid hb7; clear hb7; have HPX := Lib.hid hpx; clear hpx; have Y0 := Lib.hid y0; clear y0; have Y1 := Lib.hid y1; clear y1; have Y2 := Lib.hid y2; clear y2; have Y3 := Lib.hid y3; clear y3; have Y4 := Lib.hid y4; clear y4; have Y5 := Lib.hid y5; clear y5; have Y6 := Lib.hid y6; clear y6
      go_wp2
      refine wp_name fun w5 hw5 => ?_
      have hf : Fr NoB w4 w5 := by rw [hw5]; exact (Fr.refl _ _).alloc _
      have hwb : WbAt w5 w4.heap.size (Nd.runN me X k) 0 := by
        rw [hw5]
        exact (rowIs_new w4 12 (.int .i64 0) 64).congr (fun i hi => by simp [I, wbF])
      have hp := HP.out.keep hf
      have hb7 : B7 w5 px y := hf.row HB7.out (fun h => h)
      have hpw : px < w4.heap.size := World.rowIs.lt HB7.out
      have hwz : w.heap.size ≤ w4.heap.size := HP.out.f.size
      clear hw5 hf HP HB7
      generalize w4.heap.size = pw at *
      generalize hsk : Nd.runN me X k = s at *
      generalize hsk' : Nd.runN me X (k + 1) = s' at *
      have HSK := Lib.hid hsk; have HSK' := Lib.hid hsk'; clear hsk hsk'
      have n1 : pw ≠ pN := by have := HPX.out; have := HNC.out; have := HCS.out; omega
      have n2 : pw ≠ pC := by have := HPX.out; have := HCS.out; omega
      have n3 : pw ≠ pS := by have := HPX.out; omega
      have n4 : pw ≠ px := by omega
      have HP := Lib.hid hp; clear hp; have HB7 := Lib.hid hb7; clear hb7; have HWB := Lib.hid hwb; clear hwb; have HPW := Lib.hid hpw; clear hpw; have HWZ := Lib.hid hwz; clear hwz; have N1 := Lib.hid n1; clear n1; have N2 := Lib.hid n2; clear n2; have N3 := Lib.hid n3; clear n3; have N4 := Lib.hid n4; clear n4
      go_loopg [11] 6 (fun g i wr => BestRel2 s sS sD px pw y w ⟨pN, pC, pS⟩ g i wr)
      case atStart => exact ⟨0, by omega, by omega, rfl, HP.out, HB7.out, HWB.out⟩
      case round =>
        clear HP HB7 HWB
        obtain ⟨j, hj, hgj, rfl, hp, hb7, hwb⟩ := hrel
        have HGJ := Lib.hid hgj; clear hgj
        have HP := Lib.hid hp; clear hp; have HB7 := Lib.hid hb7; clear hb7; have HWB := Lib.hid hwb; clear hwb
        by_cases hj6 : j < 6
        · go_wp2_with fail
          refine (Best_in _ j s _ hj6 HP.out.n).mono ?_
          rintro e w6 ⟨rfl, hf⟩
          have hp := HP.out.keep hf
          have hb7 : B7 w6 px y := hf.row HB7.out (fun h => h)
          have hwb : WbAt w6 pw s j := hf.row HWB.out (fun h => h)
          clear HP HB7 HWB hf
          obtain ⟨z0, g0⟩ := hwb.any (i := j * 2) (by omega)
          obtain ⟨z1, g1⟩ := hwb.any (i := j * 2 + 1) (by omega)
          have f0 := World.rowIs.frozen hwb (j * 2)
          have f1 := World.rowIs.frozen hwb (j * 2 + 1)
          have HP := Lib.hid hp; clear hp; have HB7 := Lib.hid hb7; clear hb7; have HWB := Lib.hid hwb; clear hwb
          go_wp2
          go_roundg (6 - (j + 1))
          case rel => exact ⟨j + 1, by omega, rfl, by go_num, ⟨((HP.out.n.other (fun h => N1.out h.symm) _ _).other (fun h => N1.out h.symm) _ _), World.rowIs.setOther (World.rowIs.setOther HP.out.c (a := ⟨pw, _, none⟩) (fun h => N2.out h.symm) _) (a := ⟨pw, _, none⟩) (fun h => N2.out h.symm) _, World.rowIs.setOther (World.rowIs.setOther HP.out.sd (a := ⟨pw, _, none⟩) (fun h => N3.out h.symm) _) (a := ⟨pw, _, none⟩) (fun h => N3.out h.symm) _, HP.out.said, (HP.out.f.setNew HWZ.out _ _).setNew HWZ.out _ _⟩, World.rowIs.setOther (World.rowIs.setOther HB7.out (a := ⟨pw, _, none⟩) (fun h => N4.out h.symm) _) (a := ⟨pw, _, none⟩) (fun h => N4.out h.symm) _, HWB.out.set⟩
          case measure => have := HGJ.out; omega
        · obtain rfl : j = 6 := by omega
          have d0 := rowI_cell HB7.out (i := 0) (by omega)
          have d1 := rowI_cell HB7.out (i := 1) (by omega)
          have d2 := rowI_cell HB7.out (i := 2) (by omega)
          have d3 := rowI_cell HB7.out (i := 3) (by omega)
          have d4 := rowI_cell HB7.out (i := 4) (by omega)
          have d5 := rowI_cell HB7.out (i := 5) (by omega)
          have d6 := rowI_cell HB7.out (i := 6) (by omega)
          rw [Y0.out] at d0
          rw [Y1.out] at d1
          rw [Y2.out] at d2
          rw [Y3.out] at d3
          rw [Y4.out] at d4
          rw [Y5.out] at d5
          rw [Y6.out] at d6
          go_upto_block 4 with fail
          go_cut [8] (fun i wx => BestCut s s' k pw w ⟨pN, pC, pS⟩ i wx)
          case first =>
            by_cases e0 : x0 = 0
            · subst e0
              have hs' : s' = (Nd.linkC s x2 x1).1 := HST.out
              have hcz : pC ≠ pN := by have := HNC.out; omega
              have hcs2 : pC ≠ pS := by have := HCS.out; omega
              have hcw : w.heap.size ≤ pC := by have := HNC.out; have := HNZ.out; omega
              have HS' := Lib.hid hs'; clear hs'; have HCZ := Lib.hid hcz; clear hcz; have HC2 := Lib.hid hcs2; clear hcs2; have HCW := Lib.hid hcw; clear hcw
              clear d0 d3 d4 d5 d6
              go_wp2_with fail
              refine (Link_any pN x2 x1 s _ HR.out.ok HP.out.n).mono ?_
              rintro e w6 ⟨rfl, hn, hf⟩
              have q1 := cell_fr hf d1 (fun h => by have := HPX.out; have := HNC.out; have := HCS.out; unfold OneB at h; simp only at h; omega)
              have q2 := cell_fr hf d2 (fun h => by have := HPX.out; have := HNC.out; have := HCS.out; unfold OneB at h; simp only at h; omega)
              have hc := hf.row HP.out.c (fun h : pC = pN => HCZ.out h)
              have hsd := hf.row HP.out.sd (fun h : pS = pN => by have := HNC.out; have := HCS.out; omega)
              have hwb : WbAt w6 pw s 6 := hf.row HWB.out (fun h : pw = pN => N1.out h)
              have hff : Fr NoB w w6 := HP.out.f.trans' hf (fun i hi h => by have := HNZ.out; unfold OneB at h; omega)
              have hsa := HP.out.said.linkC x2 x1
              rw [← HS'.out] at hn hsa
              clear d1 d2 hf HWB HB7
              by_cases hcc : (Nd.linkC s x2 x1).2 = 0
              · obtain ⟨⟨f0, f1⟩, hco⟩ := Nd.linkC_cost_ok hcc
                rw [hcc]
                rw [← HS'.out] at hco
                clear hcc HP
                obtain ⟨f, rfl⟩ := Int.eq_ofNat_of_zero_le f0
                rw [Int.toNat_natCast] at hco
                have hf6 : f < 6 := by omega
                have r1 := rowI_cell hc hf6
                have r2 := World.rowIs.frozen hc f
                have HN := Lib.hid hn; clear hn; have HC := Lib.hid hc; clear hc; have HSD := Lib.hid hsd; clear hsd; have HWB := Lib.hid hwb; clear hwb; have HF := Lib.hid hff; clear hff; have HSA := Lib.hid hsa; clear hsa; have HCO := Lib.hid hco; clear hco
                go_wp2_with fail
                go_meet
                exact ⟨sS, sD, rfl, ⟨HN.out.other (fun h : pN = pC => HCZ.out h.symm) _ _, CsAt.set HC.out HCO.out, World.rowIs.setOther HSD.out (a := ⟨pC, _, none⟩) (fun h => HC2.out h.symm) _, HSA.out, HF.out.setNew HCW.out _ _⟩, World.rowIs.setOther HWB.out (a := ⟨pC, _, none⟩) (fun h => N2.out h) _⟩
              · have hno := Nd.linkC_no hcc
                rw [← HS'.out] at hno
                have hcb : ((Nd.linkC s x2 x1).2 == 0) = false := by simp [hcc]
                have hc : CsAt w6 pC s' := by rw [hno]; exact hc
                clear hno hcc HP
                have HN := Lib.hid hn; clear hn; have HC := Lib.hid hc; clear hc; have HSD := Lib.hid hsd; clear hsd; have HWB := Lib.hid hwb; clear hwb; have HF := Lib.hid hff; clear hff; have HSA := Lib.hid hsa; clear hsa
                go_wp2_with fail
                go_meet
                exact ⟨sS, sD, rfl, ⟨HN.out, HC.out, HSD.out, HSA.out, HF.out⟩, HWB.out⟩
            · by_cases e1 : x0 = 1
              · subst e1
                have hs' : s' = (Nd.hearC s x2 x4 x5 x6).1 := HST.out
                have HS' := Lib.hid hs'; clear hs'
                clear d0 e0
                go_wp2_with fail
                refine (Hear_any pN x2 x3 x4 x5 x6 s _ HR.out.ok HP.out.n).mono ?_
                rintro e w6 ⟨rfl, hn, hf⟩
                have hno : ¬ px = pN := by have := HPX.out; have := HNC.out; have := HCS.out; omega
                have q2 := cell_fr hf d2 hno
                have q3 := cell_fr hf d3 hno
                have q4 := cell_fr hf d4 hno
                have q5 := cell_fr hf d5 hno
                have q6 := cell_fr hf d6 hno
                have hc := hf.row HP.out.c (fun h : pC = pN => by have := HNC.out; omega)
                have hsd := hf.row HP.out.sd (fun h : pS = pN => by have := HNC.out; have := HCS.out; omega)
                have hwb : WbAt w6 pw s 6 := hf.row HWB.out (fun h : pw = pN => N1.out h)
                have hff : Fr NoB w w6 := HP.out.f.trans' hf (fun i hi h => by have := HNZ.out; unfold OneB at h; omega)
                have hc : CsAt w6 pC s' := CsAt.same hc (by rw [HS'.out]; exact Nd.hearC_cost _ _ _ _ _)
                have hsaid := HP.out.said
                rw [← HS'.out] at hn
                clear d1 d2 d3 d4 d5 d6 hf HWB HB7 hno HP
                by_cases hcc : (Nd.hearC s x2 x4 x5 x6).2 = 0
                · have hsa := hsaid.hearC_ok hcc
                  obtain ⟨hbad, _, _⟩ := Nd.hearC_ok hcc
                  simp only [Nd.hearBad] at hbad
                  obtain ⟨f, rfl⟩ := Int.eq_ofNat_of_zero_le (a := x2) (by omega)
                  obtain ⟨g, rfl⟩ := Int.eq_ofNat_of_zero_le (a := x4) (by omega)
                  have hf6 : f < 6 := by omega
                  have hg6 : g < 6 := by omega
                  rw [hcc]
                  rw [← HS'.out, Int.toNat_natCast, Int.toNat_natCast] at hsa
                  clear hcc hbad hsaid
                  have r0 := SdAt.c0 hsd hf6 hg6
                  have r1 := SdAt.c1 hsd hf6 hg6
                  have r2 := World.rowIs.frozen hsd (f * 12 + g * 2)
                  have r3 := World.rowIs.frozen hsd (f * 12 + g * 2 + 1)
                  have hsn : pS ≠ pN := by have := HNC.out; have := HCS.out; omega
                  have hsc : pS ≠ pC := by have := HCS.out; omega
                  have hsw : w.heap.size ≤ pS := by have := HNC.out; have := HCS.out; have := HNZ.out; omega
                  have HN := Lib.hid hn; clear hn; have HC := Lib.hid hc; clear hc; have HSD := Lib.hid hsd; clear hsd; have HWB := Lib.hid hwb; clear hwb; have HF := Lib.hid hff; clear hff; have HSA := Lib.hid hsa; clear hsa; have HSN := Lib.hid hsn; clear hsn; have HSC := Lib.hid hsc; clear hsc; have HSW := Lib.hid hsw; clear hsw
                  go_wp2_with fail
                  go_region
                  go_wp2_with fail
                  go_meet
                  exact ⟨_, _, rfl, ⟨World.rowIs.drew ((HN.out.other (fun h : pN = pS => HSN.out h.symm) _ _).other (fun h : pN = pS => HSN.out h.symm) _ _), World.rowIs.drew (World.rowIs.setOther (World.rowIs.setOther HC.out (a := ⟨pS, _, none⟩) (fun h => HSC.out h.symm) _) (a := ⟨pS, _, none⟩) (fun h => HSC.out h.symm) _), World.rowIs.drew (SdAt.set HSD.out hg6 x5 x6), HSA.out, ((HF.out.setNew HSW.out _ _).setNew HSW.out _ _).drew⟩, World.rowIs.drew (World.rowIs.setOther (World.rowIs.setOther HWB.out (a := ⟨pS, _, none⟩) (fun h => N3.out h) _) (a := ⟨pS, _, none⟩) (fun h => N3.out h) _)⟩
                · have hno := Nd.hearC_no hcc
                  rw [← HS'.out] at hno
                  have hcb : ((Nd.hearC s x2 x4 x5 x6).2 == 0) = false := by simp [hcc]
                  have hsa : Nd.Said s' sS sD := by rw [hno]; exact hsaid
                  clear hno hcc hsaid
                  have HN := Lib.hid hn; clear hn; have HC := Lib.hid hc; clear hc; have HSD := Lib.hid hsd; clear hsd; have HWB := Lib.hid hwb; clear hwb; have HF := Lib.hid hff; clear hff; have HSA := Lib.hid hsa; clear hsa
                  go_wp2_with fail
                  go_meet
                  exact ⟨sS, sD, rfl, ⟨HN.out, HC.out, HSD.out, HSA.out, HF.out⟩, HWB.out⟩
              · by_cases e2 : x0 = 2
                · subst e2
                  have hs' : s' = Nd.tick s := HST.out
                  have HS' := Lib.hid hs'; clear hs'
                  clear e0 e1 d1 d2 d3 d4 d5 d6
                  go_wp2_with fail
                  refine (Tick_any pN s _ HR.out.ok.me HR.out.lo (by have := HR.out.hi; omega) HP.out.n).mono ?_
                  rintro e w6 ⟨rfl, hn, hf⟩
                  have hc := hf.row HP.out.c (fun h : pC = pN => by have := HNC.out; omega)
                  have hsd := hf.row HP.out.sd (fun h : pS = pN => by have := HNC.out; have := HCS.out; omega)
                  have hwb : WbAt w6 pw s 6 := hf.row HWB.out (fun h : pw = pN => N1.out h)
                  have hff : Fr NoB w w6 := HP.out.f.trans' hf (fun i hi h => by have := HNZ.out; unfold OneB at h; omega)
                  have hc : CsAt w6 pC s' := CsAt.same hc (by rw [HS'.out]; exact (Nd.tick_heard s).2.2)
                  have hsa : Nd.Said s' sS sD := by rw [HS'.out]; exact HP.out.said
                  rw [← HS'.out] at hn
                  clear d0 hf HWB HB7 HP
                  have HN := Lib.hid hn; clear hn; have HC := Lib.hid hc; clear hc; have HSD := Lib.hid hsd; clear hsd; have HWB := Lib.hid hwb; clear hwb; have HF := Lib.hid hff; clear hff; have HSA := Lib.hid hsa; clear hsa
                  go_wp2_with fail
                  go_meet
                  exact ⟨sS, sD, rfl, ⟨HN.out, HC.out, HSD.out, HSA.out, HF.out⟩, HWB.out⟩
                · have hs' : s' = s := by have := HST.out; rw [Nd.stepN_no _ _ _ _ _ _ _ e0 e1 e2] at this; exact this
                  have b0 : (x0 == 0) = false := by simpa using e0
                  have b1 : (x0 == 1) = false := by simpa using e1
                  have b2 : (x0 == 2) = false := by simpa using e2
                  have hp : Hp w ⟨pN, pC, pS⟩ s' sS sD wr := by rw [hs']; exact HP.out
                  clear e0 e1 e2 hs' d1 d2 d3 d4 d5 d6 HP
                  have HP := Lib.hid hp; clear hp
                  go_wp2_with fail
                  go_meet
                  exact ⟨sS, sD, rfl, HP.out, HWB.out⟩
          case rest =>
            clear HP HB7 HWB d0 d1 d2 d3 d4 d5 d6
            obtain ⟨sS', sD', rfl, hp, hwb⟩ := hcut
            have HP := Lib.hid hp; clear hp; have HWB := Lib.hid hwb; clear hwb
            clear HR HS HST N1 N2 N3 N4 HPX HPW HWZ Y0 Y1 Y2 Y3 Y4 Y5 Y6 HNC HCS HNZ HGJ
            go_wp2
            go_loopg [12] 6 (fun g i wr => BestRel3 s s' sS' sD' pw w ⟨pN, pC, pS⟩ g i wr)
            case atStart => exact ⟨0, by omega, by omega, rfl, HP.out, HWB.out⟩
            case round =>
              clear HP HWB
              obtain ⟨j, hj, hgj, rfl, hp, hwb⟩ := hrel
              have HGJ := Lib.hid hgj; clear hgj
              have HP := Lib.hid hp; clear hp; have HWB := Lib.hid hwb; clear hwb
              by_cases hj6 : j < 6
              · have hask := Nd.asked HR1.out.ok HW1.out HR1.out.own HS1.out HP.out.said hj6
                have hnw : Nd.betB (s.bS j) (s.bD j) (s'.bS j) (s'.bD j) = false := HNW.out j
                have hji : (j : Int) < 6 := by omega
                have HA := Lib.hid hask; clear hask; have HN1 := Lib.hid hnw; clear hnw
                go_wp2_with fail
                refine (Best_in pN j s' _ hj6 HP.out.n).mono ?_
                rintro e w6 ⟨rfl, hf⟩
                have hp := HP.out.keep hf
                have hwb : WbAt w6 pw s 6 := hf.row HWB.out (fun h => h)
                clear HP HWB hf
                have t0 := hwb.c0 hj6
                have t1 := hwb.c1 hj6
                have HP := Lib.hid hp; clear hp; have HWB := Lib.hid hwb; clear hwb
                go_wp2_with fail
                go_quiet ((go_at_call 41; exact Calls.quiet_of_same (RBetter_rq _ _ _ _ false _ HN1.out)))
                go_wp2_with fail
                refine (Way_in pN j s' _ hj6 (by exact HP.out.n)).mono ?_
                rintro e w7 ⟨rfl, hf⟩
                have hp := (HP.out.drewN _).keep hf
                have hwb : WbAt w7 pw s 6 := Fr.row hf HWB.out (fun h => h)
                clear HP HWB hf t0 t1
                have HP := Lib.hid hp; clear hp; have HWB := Lib.hid hwb; clear hwb
                go_upto_region 33 with fail
                refine wp_name fun w8 hw8 => ?_
                have hf : Fr NoB w7 w8 := by rw [hw8]; exact (Fr.refl _ _).alloc _
                have g0 : w8.cell? ⟨w7.heap.size, 0, none⟩ = some (.int .i64 (s'.wS j)) := by rw [hw8]; simp
                have g1 : w8.cell? ⟨w7.heap.size, 1, none⟩ = some (.int .i64 (s'.wD j)) := by rw [hw8]; simp
                have g2 : w8.cell? ⟨w7.heap.size, 2, none⟩ = some (.int .i64 (s'.wH j)) := by rw [hw8]; simp
                have hp := HP.out.keep hf
                have hwb : WbAt w8 pw s 6 := Fr.row hf HWB.out (fun h => h)
                clear HP HWB hf hw8
                generalize w7.heap.size = pq at *
                have HP := Lib.hid hp; clear hp; have HWB := Lib.hid hwb; clear hwb
                by_cases hH : s'.wH j = -1
                · have hb1 : (s'.wH j == -1) = true := by simp [hH]
                  have hb2 : (s'.wD j != 200) = false := by have := HA.out.drop hH; simp [this]
                  clear hH
                  go_wp2
                  go_roundg (6 - (j + 1))
                  case rel => exact ⟨j + 1, by omega, rfl, by go_num, HP.out, HWB.out⟩
                  case measure => have := HGJ.out; omega
                · have hb1 : (s'.wH j == -1) = false := by simpa using hH
                  have hnb := HA.out.noBetter hH
                  have HNB := Lib.hid hnb; clear hnb; have HH := Lib.hid hH; clear hH
                  go_wp2_with fail
                  refine (RBetter_r _ _ _ _ false _ HNB.out).mono ?_
                  rintro e w9 ⟨rfl, rfl⟩
                  by_cases hm : j = me
                  · have hb3 : ((j : Int) == (me : Int)) = true := by simp [hm]
                    clear hm
                    go_wp2
                    go_roundg (6 - (j + 1))
                    case rel => exact ⟨j + 1, by omega, rfl, by go_num, HP.out, HWB.out⟩
                    case measure => have := HGJ.out; omega
                  · have hb3 : ((j : Int) == (me : Int)) = false := by simp; omega
                    obtain ⟨f, hf6, hwh, hc0, hc15, hs1, hd1, hd0, hd2, hbt⟩ := HA.out.via HH.out (by rw [HSM.out]; exact hm)
                    rw [hwh] at g2 hb1
                    have hb4 : (s'.wS j != sS' f j) = false := by simp [hs1]
                    have hb5 : (s'.wD j != sD' f j + s'.cost f) = false := by simp [hd1]
                    have hb6 : (s'.cost f == 0) = false := by simp; omega
                    have hsum := IntWalk.i64_in (sD' f j + s'.cost f) (by omega)
                    have hfi : (f : Int) < 6 := by omega
                    have r0 := HP.out.sd.c0 hf6 hj6
                    have r1 := HP.out.sd.c1 hf6 hj6
                    clear hm hwh hs1 hd1
                    have HBT := Lib.hid hbt; clear hbt; have HC0 := Lib.hid hc0; clear hc0; have HC15 := Lib.hid hc15; clear hc15; have HD0 := Lib.hid hd0; clear hd0; have HD2 := Lib.hid hd2; clear hd2
                    go_wp2_with fail
                    refine (RNode_yes _ _ (by omega) (by omega)).mono ?_
                    rintro e w9 ⟨rfl, rfl⟩
                    go_upto_region 42 with fail
                    refine wp_name fun w9 hw9 => ?_
                    have hf : Fr NoB w8 w9 := by rw [hw9]; exact (Fr.refl _ _).alloc _
                    have k0 : w9.cell? ⟨w8.heap.size, 0, none⟩ = some (.int .i64 (sS' f j)) := by rw [hw9]; simp
                    have k1 : w9.cell? ⟨w8.heap.size, 1, none⟩ = some (.int .i64 (sD' f j)) := by rw [hw9]; simp
                    have g0 := cell_fr hf g0 (fun h => h)
                    have g1 := cell_fr hf g1 (fun h => h)
                    have g2 := cell_fr hf g2 (fun h => h)
                    have hp := HP.out.keep hf
                    have hwb : WbAt w9 pw s 6 := Fr.row hf HWB.out (fun h => h)
                    have k2 := rowI_cell hp.c hf6
                    clear HP HWB hf hw9 r0 r1
                    generalize w8.heap.size = ph at *
                    have HP := Lib.hid hp; clear hp; have HWB := Lib.hid hwb; clear hwb
                    go_quiet ((go_at_call 41; exact Calls.quiet_of_same (RBetter_rq _ _ _ _ true _ HBT.out)))
                    go_wp2
                    go_roundg (6 - (j + 1))
                    case rel => exact ⟨j + 1, by omega, rfl, by go_num, HP.out.drewN _, HWB.out⟩
                    case measure => have := HGJ.out; omega
              · obtain rfl : j = 6 := by omega
                go_wp2
                go_roundg (n - (k + 1))
                case rel => exact ⟨k + 1, sS', sD', by omega, rfl, by go_num, by rw [HSK'.out]; exact HP.out⟩
                case measure => have := HG.out; omega
    · go_wp2
      go_ret
      exact ⟨rfl, HP.out.f⟩

set_option maxRecDepth 100000 in
set_option maxHeartbeats 2000000 in
theorem NodeBest_early (me : Int) (a0 : Option Addr) (n c : Nat) (w : World) (h : ¬ (0 ≤ me ∧ me < 6) ∨ ((0 ≤ me ∧ me < 6) ∧ 200 < n)) :
    Calls Try.prog 8 #[.int .i64 me, .slice a0 n c] w (TrueFr w) := by
  rcases h with h | ⟨hm, h⟩
  · have H := Lib.hid h; clear h
    go_enter Try.func8, Try.ntmps8
    go_wp2_with fail
    refine (nodeBegun_true _).mono ?_
    rintro e w1 ⟨rfl, hF⟩
    have HF := Lib.hid hF; clear hF
    go_wp2_with fail
    refine (New_no me _ H.out).mono ?_
    rintro e w2 ⟨rfl, rfl⟩
    go_wp2
    go_ret
    exact ⟨rfl, HF.out⟩
  · obtain ⟨m, rfl⟩ := Int.eq_ofNat_of_zero_le hm.1
    go_enter Try.func8, Try.ntmps8
    go_wp2_with fail
    refine (nodeBegun_true _).mono ?_
    rintro e w1 ⟨rfl, hF⟩
    have HF := Lib.hid hF; clear hF
    go_wp2_with fail
    refine (New_yes m _ (by omega)).mono ?_
    rintro e w2 ⟨rfl, _, hF⟩
    have hF := HF.out.trans hF
    clear HF
    have HF := Lib.hid hF; clear hF
    go_wp2
    go_ret
    exact ⟨rfl, HF.out⟩

theorem NodeBest_all (me : Int) (a1 : Option Addr) (n1 c1 : Nat) (X1 : Nat → Int) (w : World) (hX : Rd w a1 (n1 * 7) X1) :
    Calls Try.prog 8 #[.int .i64 me, .slice a1 n1 c1] w (TrueFr w) := by
  by_cases hm : 0 ≤ me ∧ me < 6
  · by_cases hn : 200 < n1
    · exact NodeBest_early me a1 n1 c1 w (.inr ⟨hm, hn⟩)
    · obtain ⟨m, rfl⟩ := Int.eq_ofNat_of_zero_le hm.1
      exact NodeBest_main m a1 n1 c1 X1 w (by omega) (by omega) hX
  · exact NodeBest_early me a1 n1 c1 w (.inl hm)
end Go.Proofs.Ytdpgbgapelgomaa
