/- The walk of NetAges. -/
import Derived.Test.YtdpgbgapelgomaaNt7
import Derived.Test.YtdpgbgapelgomaaNtMath5
namespace Go.Proofs.Ytdpgbgapelgomaa
open Go.RowKit Go.Deep

theorem RNode_q1 (a : Nat) (w : World) (h : a < 6) :
    Calls Try.prog 19 #[.int .i64 a] w fun e w' => e = .returned (.bool true) ∧ w' = w :=
  (RNode_yes a w (by omega) (by omega)).mono fun _ _ h => ⟨h.1, h.2.symm⟩
theorem fieldSeq' (a b c : Int) (w : World) : (Instr.field 56 (.agg #[.int .i64 a, .int .i64 b, .int .i64 c]) 0).run Try.prog w = .ok (.int .i64 a) w := by kernel_rfl
theorem row_alloc3 (w : World) (o : Obj) (n : Nat) (v : Value) (t : TypeId) : ((w.alloc o).alloc (.cells (Array.replicate n v) t)).rowIs (w.heap.size + 1) t n (fun _ => v) := by
  have h := rowIs_new (w.alloc o) n v t
  rwa [show (w.alloc o).heap.size = w.heap.size + 1 from by simp] at h
/-- The best ages of all, of all. -/
def bestsF (t : Nt.NT) (j : Nat) : Int := (t.N (j / 6)).bS (j % 6)
/-- The columns below a, and of column a the rows below b, are new. -/
def mixF (t s : Nt.NT) (a b : Nat) (j : Nat) : Int := if j % 6 < a ∨ (j % 6 = a ∧ j / 6 < b) then bestsF s j else bestsF t j
structure Hn (w : World) (x : Ids) (v : Value) (t : Nt.NT) (pT pB : Nat) (tk bs : Nat → Int) (wr : World) : Prop where
  n : NtR w x v t wr
  tk : wr.rowIs pT 32 6 (I tk)
  bs : wr.rowIs pB 40 36 (I bs)
theorem Hn.keep {w wr wx : World} {x : Ids} {v : Value} {t : Nt.NT} {pT pB : Nat} {tk bs : Nat → Int} (h : Hn w x v t pT pB tk bs wr) (hf : Fr NoB wr wx) : Hn w x v t pT pB tk bs wx :=
  ⟨h.n.keep hf, hf.row h.tk (fun h => h), hf.row h.bs (fun h => h)⟩
theorem Hn.step {w wr wx : World} {x : Ids} {v v' : Value} {t t' : Nt.NT} {pT pB : Nat} {tk bs : Nat → Int} (h : Hn w x v t pT pB tk bs wr) (ha : NtAt wx x v' t') (hf : Fr (Ft x v) wr wx) (hg : ∀ g, v'.ownBlock = some g → v.ownBlock = some g ∨ wr.heap.size ≤ g) : Hn w x v' t' pT pB tk bs wx :=
  ⟨h.n.step ha hf hg, hf.row h.tk (h.n.at_.row_off h.tk (by decide) (by decide) (by decide) (by decide)), hf.row h.bs (h.n.at_.row_off h.bs (by decide) (by decide) (by decide) (by decide))⟩
theorem Hn.congr {w wr : World} {x : Ids} {v : Value} {t : Nt.NT} {pT pB : Nat} {tk bs tk' bs' : Nat → Int} (h : Hn w x v t pT pB tk bs wr) (h1 : ∀ i, i < 6 → tk' i = tk i) (h2 : ∀ i, i < 36 → bs' i = bs i) : Hn w x v t pT pB tk' bs' wr :=
  ⟨h.n, h.tk.congr (fun i hi => by simp only [I, h1 i hi]), h.bs.congr (fun i hi => by simp only [I, h2 i hi])⟩
theorem Hn.setT {w wr : World} {x : Ids} {v : Value} {t : Nt.NT} {pT pB : Nat} {tk bs : Nat → Int} (h : Hn w x v t pT pB tk bs wr) (hw : w.heap.size ≤ pT) (i : Nat) (u : Int) : Hn w x v t pT pB (fun j => if j = i then u else tk j) bs (wr.setCell ⟨pT, i, none⟩ (.int .i64 u)) := by
  have hf : Fr (OneB pT) wr (wr.setCell ⟨pT, i, none⟩ (.int .i64 u)) := (Fr.refl _ _).set1 _ _
  have hoff := h.n.at_.row_off h.tk (by decide) (by decide) (by decide) (by decide)
  exact ⟨⟨h.n.at_.keep hf (fun j hj e => by unfold OneB at e; subst e; exact hoff hj), h.n.f.setNew hw _ _, h.n.new⟩, rowI_set h.tk i u (fun _ _ => rfl), hf.row h.bs (fun e : pB = pT => rows_apart h.bs h.tk (by decide) e)⟩
theorem Hn.setB {w wr : World} {x : Ids} {v : Value} {t : Nt.NT} {pT pB : Nat} {tk bs : Nat → Int} (h : Hn w x v t pT pB tk bs wr) (hw : w.heap.size ≤ pB) (i : Nat) (u : Int) : Hn w x v t pT pB tk (fun j => if j = i then u else bs j) (wr.setCell ⟨pB, i, none⟩ (.int .i64 u)) := by
  have hf : Fr (OneB pB) wr (wr.setCell ⟨pB, i, none⟩ (.int .i64 u)) := (Fr.refl _ _).set1 _ _
  have hoff := h.n.at_.row_off h.bs (by decide) (by decide) (by decide) (by decide)
  exact ⟨⟨h.n.at_.keep hf (fun j hj e => by unfold OneB at e; subst e; exact hoff hj), h.n.f.setNew hw _ _, h.n.new⟩, hf.row h.tk (fun e : pT = pB => rows_apart h.tk h.bs (by decide) e), rowI_set h.bs i u (fun _ _ => rfl)⟩
def AgeRel1 (X : Nat → Int) (n : Nat) (w : World) (x : Ids) (pT pB : Nat) (g : Nat) (i : Value) (wr : World) : Prop :=
  ∃ (k : Nat) (v : Value), k ≤ n ∧ g = n - k ∧ i = .int .i64 k ∧ Hn w x v (Nt.runT X k) pT pB (Nt.age (Nt.runT X k)) (bestsF (Nt.runT X k)) wr
def CutA1 (b : Bool) (w : World) (s : Value) (wx : World) : Prop := s = .bool b ∧ w = wx
def CutA2 (w : World) (x : Ids) (v : Value) (t' : Nt.NT) (pT pB : Nat) (tk bs : Nat → Int) (k : Nat) (s : Value) (wx : World) : Prop := s = .int .i64 k ∧ Hn w x v t' pT pB tk bs wx
def AgeRel2 (t t' : Nt.NT) (w : World) (x : Ids) (v : Value) (pT pB : Nat) (g : Nat) (i : Value) (wr : World) : Prop :=
  ∃ a : Nat, a ≤ 6 ∧ g = 6 - a ∧ i = .int .i64 a ∧ Hn w x v t' pT pB (Nt.age t') (mixF t t' a 0) wr
def AgeRel3 (t t' : Nt.NT) (a : Nat) (w : World) (x : Ids) (v : Value) (pT pB : Nat) (g : Nat) (i : Value) (wr : World) : Prop :=
  ∃ b : Nat, b ≤ 6 ∧ g = 6 - b ∧ i = .int .i64 b ∧ Hn w x v t' pT pB (Nt.age t') (mixF t t' a b) wr
def AgeRel4 (t' : Nt.NT) (pv : Value) (base : Nat) (w : World) (x : Ids) (v : Value) (pT pB : Nat) (g : Nat) (i : Value) (wr : World) : Prop :=
  ∃ k : Nat, k ≤ t'.news.length ∧ g = t'.news.length - k ∧ i = .int .i64 k ∧ Hn w x v t' pT pB (Nt.age t') (bestsF t') wr ∧ SlN wr base pv t'.news.length (nwI t'.news)
theorem NWay_own (x : Ids) (v : Value) (t : Nt.NT) (n a : Nat) (w : World) (ha : a < 6) (hok : Nt.NOk t n) (h : NtAt w x v t) :
    Calls Try.prog 47 #[.pointer (some ⟨x.b, 0, none⟩), .int .i64 a, .int .i64 a] w fun e w' => e = .returned (.agg #[.int .i64 (Nt.age t a), .int .i64 0, .int .i64 a]) ∧ Fr NoB w w' := by
  refine (NWay_in x v t a a w ha ha h).mono ?_
  rintro e w' ⟨rfl, hf⟩
  obtain ⟨e1, e2, e3⟩ := Nt.own_way hok ha
  rw [e1, e2, e3]
  exact ⟨rfl, hf⟩
theorem mix_next (t s : Nt.NT) (a b : Nat) (ha : a < 6) (j : Nat) (_hj : j < 36) : mixF t s a (b + 1) j = if j = b * 6 + a then bestsF s (b * 6 + a) else mixF t s a b j := by
  unfold mixF
  by_cases e : j = b * 6 + a
  · subst e
    rw [if_pos (by omega), if_pos rfl]
  · rw [if_neg e]
    by_cases h1 : j % 6 < a ∨ (j % 6 = a ∧ j / 6 < b)
    · rw [if_pos h1, if_pos (by omega)]
    · rw [if_neg h1, if_neg (by omega)]
theorem mix_col (t s : Nt.NT) (a : Nat) (j : Nat) (hj : j < 36) : mixF t s (a + 1) 0 j = mixF t s a 6 j := by
  unfold mixF
  by_cases h1 : j % 6 < a ∨ (j % 6 = a ∧ j / 6 < 6)
  · rw [if_pos h1, if_pos (by omega)]
  · rw [if_neg h1, if_neg (by omega)]

set_option maxRecDepth 100000 in
set_option maxHeartbeats 8000000 in
theorem NetAges_main (a0 : Option Addr) (n c : Nat) (X : Nat → Int) (w : World) (hn : n ≤ 150) (hX : Rd w a0 (n * 6) X) :
    Calls Try.prog 12 #[.slice a0 n c] w (TrueFr w) := by
  have HX := Lib.hid hX; clear hX
  go_enter Try.func12, Try.ntmps12
  go_wp2_with fail
  refine (netBegun_true _).mono ?_
  rintro e w1 ⟨rfl, hF⟩
  have HF := Lib.hid hF; clear hF
  go_wp2_with fail
  refine (NewNt _).mono ?_
  rintro e w2 ⟨x, v, rfl, hn1, hf, hnew⟩
  have hz := HF.out.size
  have h1 : NtR w x v Nt.begun w2 := ⟨hn1, HF.out.trans hf, fun i hi => by have := hnew i hi; omega⟩
  clear hn1 hf hnew HF hz
  have H := Lib.hid h1; clear h1
  go_wp2
  refine wp_name fun w3 hw3 => ?_
  have hf : Fr NoB w2 w3 := by rw [hw3]; exact ((Fr.refl _ _).alloc _).alloc _
  have hwz : w.heap.size ≤ w2.heap.size := H.out.f.size
  have h2 : Hn w x v (Nt.runT X 0) w2.heap.size (w2.heap.size + 1) (Nt.age (Nt.runT X 0)) (bestsF (Nt.runT X 0)) w3 := by
    refine ⟨H.out.keep hf, ?_, ?_⟩
    · rw [hw3]
      exact World.rowIs.alloc ((rowIs_new w2 6 (.int .i64 0) 32).congr (fun i hi => by simp only [I]; rw [show Nt.runT X 0 = Nt.begun from rfl, Nt.begun_age])) _
    · rw [hw3]
      exact (row_alloc3 w2 _ 36 (.int .i64 0) 40).congr (fun i hi => by simp only [I, bestsF]; rw [show Nt.runT X 0 = Nt.begun from rfl, Nt.begun_best])
  clear hw3 hf H
  have hpz : w.heap.size ≤ w2.heap.size + 1 := by omega
  generalize w2.heap.size + 1 = pB at *
  generalize w2.heap.size = pT at *
  have H := Lib.hid h2; clear h2; have HWT := Lib.hid hwz; clear hwz; have HWB := Lib.hid hpz; clear hpz
  go_loopg [6] n (fun g i wr => AgeRel1 X n w x pT pB g i wr)
  case atStart => exact ⟨0, _, by omega, by omega, rfl, H.out⟩
  case round =>
    clear H
    obtain ⟨k, v, hk, hgk, rfl, h2⟩ := hrel
    have HG := Lib.hid hgk; clear hgk
    have H := Lib.hid h2; clear h2
    have HR := Lib.hid (Nt.runT_str X k)
    by_cases hkn : k < n
    · have hkb : decide ((k : Int) < (n : Int)) = true := by simp; omega
      obtain ⟨b0, o0, rfl, c0⟩ := HX.out (k * 6) (by omega)
      obtain ⟨b1, o1, e1, c1⟩ := HX.out (k * 6 + 1) (by omega)
      obtain ⟨b2, o2, e2, c2⟩ := HX.out (k * 6 + 2) (by omega)
      obtain ⟨b3, o3, e3, c3⟩ := HX.out (k * 6 + 3) (by omega)
      obtain ⟨b4, o4, e4, c4⟩ := HX.out (k * 6 + 4) (by omega)
      obtain ⟨b5, o5, e5, c5⟩ := HX.out (k * 6 + 5) (by omega)
      cases e1; cases e2; cases e3; cases e4; cases e5
      have hst : Nt.runT X (k + 1) = (Nt.doT (Nt.runT X k) (X (k * 6)) (X (k * 6 + 1)) (X (k * 6 + 2)) (X (k * 6 + 3))).1 := rfl
      have hstr := Nt.runT_str X (k + 1)
      have hage := fun j (hj : j < 6) => Nt.age_doT HR.out.ok (X (k * 6)) (X (k * 6 + 1)) (X (k * 6 + 2)) (X (k * 6 + 3)) hj
      have hnw := fun f (hf : f < 6) (j : Nat) => Nt.nw_seq (Nt.nw_doT HR.out (X (k * 6)) (X (k * 6 + 1)) (X (k * 6 + 2)) (X (k * 6 + 3)) hf j)
      rw [← hst] at hage hnw
      generalize X (k * 6) = x0 at *
      generalize X (k * 6 + 1) = x1 at *
      generalize X (k * 6 + 2) = x2 at *
      generalize X (k * 6 + 3) = x3 at *
      generalize X (k * 6 + 4) = x4 at *
      generalize X (k * 6 + 5) = x5 at *
      have c0 := cell_fr H.out.n.f c0 (fun h => h)
      have c1 := cell_fr H.out.n.f c1 (fun h => h)
      have c2 := cell_fr H.out.n.f c2 (fun h => h)
      have c3 := cell_fr H.out.n.f c3 (fun h => h)
      have c4 := cell_fr H.out.n.f c4 (fun h => h)
      have c5 := cell_fr H.out.n.f c5 (fun h => h)
      have hb0 : b0 < w.heap.size := by
        obtain ⟨b, o, e, hc⟩ := HX.out (k * 6) (by omega)
        cases e
        exact World.block_lt_of_cell? w _ hc
      rw [← Nat.add_assoc] at c1 c2 c3 c4 c5
      have HST := Lib.hid hst; clear hst; have HS := Lib.hid hstr; clear hstr; have HAG := Lib.hid hage; clear hage; have HNW := Lib.hid hnw; clear hnw
      go_wp2_with fail
      refine (Do_any x v _ x0 x1 x2 x3 x4 x5 k _ HR.out.ok (by omega) H.out.n.at_).mono ?_
      rintro e w4 ⟨v4, rfl, ha, hf, hg⟩
      have h4 := H.out.step ha hf hg
      rw [← HST.out] at h4
      have hno : ¬ Ft x v b0 := fun h => by have := H.out.n.new _ h; omega
      have c0 := cell_fr hf c0 hno
      have c1 := cell_fr hf c1 hno
      generalize hsk : Nt.runT X (k + 1) = t' at *
      have HSK := Lib.hid hsk; clear hsk
      generalize hsk0 : Nt.runT X k = t at *
      clear hsk0 H HST c2 c3 c4 c5 ha hf hg hno hb0
      generalize (Nt.doT t x0 x1 x2 x3).2 = cc at *
      have H := Lib.hid h4; clear h4
      go_upto_region 12 with fail
      go_cut [44] (fun s wx => CutA1 (decide (x0 = 2 ∧ Nt.isN x1)) w4 s wx)
      case first =>
        by_cases e0 : x0 = 2
        · subst e0
          by_cases e1 : Nt.isN x1
          · have hd : decide ((2 : Int) = 2 ∧ Nt.isN x1) = true := by simp [e1]
            have HD := Lib.hid hd; clear hd; have E1 := Lib.hid e1; clear e1
            go_wp2_with fail
            refine (RNode_yes _ _ E1.out.1 E1.out.2).mono ?_; rintro e w' ⟨rfl, rfl⟩
            go_wp2_with fail
            go_meet
            exact ⟨by rw [HD.out], rfl⟩
          · have hd : decide ((2 : Int) = 2 ∧ Nt.isN x1) = false := by simp [e1]
            have HD := Lib.hid hd; clear hd; have E1 := Lib.hid e1; clear e1
            go_wp2_with fail
            refine (RNode_no _ _ E1.out).mono ?_; rintro e w' ⟨rfl, rfl⟩
            go_wp2_with fail
            go_meet
            exact ⟨by rw [HD.out], rfl⟩
        · have hd : decide (x0 = 2 ∧ Nt.isN x1) = false := by simp [e0]
          have hb : (x0 == 2) = false := by simpa using e0
          clear e0
          have HD := Lib.hid hd; clear hd
          go_wp2_with fail
          go_meet
          exact ⟨by rw [HD.out], rfl⟩
      case rest =>
        obtain ⟨rfl, rfl⟩ := hcut
        go_upto_if 44 with fail
        go_cut [6] (fun s wx => CutA2 w x v4 t' pT pB (Nt.age t') (bestsF t) k s wx)
        case first =>
          by_cases hd : x0 = 2 ∧ Nt.isN x1
          · have hdb : decide (x0 = 2 ∧ Nt.isN x1) = true := by simp only [decide_eq_true_eq]; exact hd
            obtain ⟨e0, e1⟩ := hd
            obtain ⟨p, rfl⟩ := Int.eq_ofNat_of_zero_le e1.1
            have hp : p < 6 := by have := e1.2; omega
            have ct := rowI_cell H.out.tk hp
            have hag := HR.out.age0 hp
            have hlo := (HR.out.ok.run p hp).hi
            rw [HR.out.ok.me p hp] at hlo
            have hlo : Nt.age t p ≤ k := hlo
            have hsum := IntWalk.i64_in (Nt.age t p + 1) (by omega)
            have hft := World.rowIs.frozen H.out.tk p
            have hag2 : ∀ j, j < 6 → Nt.age t' j = if j = p then Nt.age t p + 1 else Nt.age t j := fun j hj => by
              rw [HAG.out j hj]
              by_cases e : j = p
              · subst e; rw [if_pos rfl, if_pos ⟨e0, e1, by rw [Int.toNat_natCast]⟩]
              · rw [if_neg e, if_neg (fun h => e (by have := h.2.2; rw [Int.toNat_natCast] at this; exact this))]
            rw [hdb]
            clear hdb e1 hag hlo
            have HA2 := Lib.hid hag2; clear hag2; have E0 := Lib.hid e0; clear e0
            go_wp2_with fail
            go_meet
            exact ⟨rfl, (H.out.setT HWT.out p (Nt.age t p + 1)).congr (fun i hi => HA2.out i hi) (fun _ _ => rfl)⟩
          · have hdb : decide (x0 = 2 ∧ Nt.isN x1) = false := by simp only [decide_eq_false_iff_not]; exact hd
            have hag2 : ∀ j, j < 6 → Nt.age t' j = Nt.age t j := fun j hj => by
              rw [HAG.out j hj, if_neg (fun h => hd ⟨h.1, h.2.1⟩)]
            rw [hdb]
            clear hdb hd
            have HA2 := Lib.hid hag2; clear hag2
            go_wp2_with fail
            go_meet
            exact ⟨rfl, H.out.congr (fun i hi => HA2.out i hi) (fun _ _ => rfl)⟩
        case rest =>
          clear H HAG c0 c1
          obtain ⟨rfl, h4⟩ := hcut
          have h4 := h4.congr (tk' := Nt.age t') (bs' := mixF t t' 0 0) (fun _ _ => rfl) (fun i _ => by unfold mixF; rw [if_neg (by omega)])
          have H := Lib.hid h4; clear h4
          go_wp2
          go_loopg [7] 6 (fun g i wr => AgeRel2 t t' w x v4 pT pB g i wr)
          case atStart => exact ⟨0, by omega, by omega, rfl, H.out⟩
          case round =>
            clear H
            obtain ⟨a, ha, hga, rfl, h4⟩ := hrel
            have HGA := Lib.hid hga; clear hga
            have H := Lib.hid h4; clear h4
            by_cases ha6 : a < 6
            · have hab : decide ((a : Int) < 6) = true := by simp; omega
              have hai : (a : Int) < 6 := by omega
              have ct := rowI_cell H.out.tk ha6
              go_wp2_with fail
              go_region_held3 (fun W => W.cell? ⟨pT, a, none⟩ = some (.int .i64 (Nt.age t' a)))
                (first | exact ct | exact ct2)
                ((go_at_call 47; refine (NWay_own x v4 t' (k + 1) a _ ha6 HS.out.ok (by exact (H.out.keep ((Fr.refl _ _).drew)).n.at_)).mono ?_; rintro e w6 ⟨rfl, hf⟩; have ct2 := cell_fr hf ct (fun h => h)))
              have h6 := (H.out.keep ((Fr.refl _ _).drew)).keep hf
              have h6 := h6.congr (tk' := Nt.age t') (bs' := mixF t t' a 0) (fun _ _ => rfl) (fun _ _ => rfl)
              clear H hf ct ct2
              have H := Lib.hid h6; clear h6
              go_wp2
              go_loopg [8] 6 (fun g i wr => AgeRel3 t t' a w x v4 pT pB g i wr)
              case atStart => exact ⟨0, by omega, by omega, rfl, H.out⟩
              case round =>
                clear H
                obtain ⟨b, hb, hgb, rfl, h4⟩ := hrel
                have HGB := Lib.hid hgb; clear hgb
                have H := Lib.hid h4; clear h4
                by_cases hb6 : b < 6
                · have hbb : decide ((b : Int) < 6) = true := by simp; omega
                  have hbi : (b : Int) < 6 := by omega
                  obtain ⟨k1, k2, _⟩ := HS.out.cap b hb6 a ha6
                  have k3 := HNW.out b hb6 a
                  have g1 : decide (Nt.age t' a < (t'.N b).wS a) = false := by simp; omega
                  have g2 : decide (Nt.age t' a < (t'.N b).bS a) = false := by simp; omega
                  have g3 : decide ((t'.N b).bS a < (t.N b).bS a) = false := by simp; omega
                  clear k1 k2 k3
                  have hfd := fieldSeq'
                  go_wp2_with fail
                  refine (NBest_in x v4 t' b a _ hb6 ha6 H.out.n.at_).mono ?_
                  rintro e w7 ⟨rfl, hf⟩
                  have h7 := H.out.keep hf
                  clear H hf
                  have ct := rowI_cell h7.tk ha6
                  have cb := rowI_cell h7.bs (i := b * 6 + a) (by omega)
                  have em : mixF t t' a b (b * 6 + a) = (t.N b).bS a := by
                    unfold mixF bestsF
                    rw [if_neg (by omega), show (b * 6 + a) / 6 = b from by omega, show (b * 6 + a) % 6 = a from by omega]
                  rw [em] at cb
                  clear em
                  have H := Lib.hid h7; clear h7
                  go_wp2_with fail
                  go_region_held3 (fun W => W.cell? ⟨pT, a, none⟩ = some (.int .i64 (Nt.age t' a)) ∧ W.cell? ⟨pB, b * 6 + a, none⟩ = some (.int .i64 ((t.N b).bS a)))
                    (first | exact ⟨ct, cb⟩ | exact ⟨ct2, cb2⟩)
                    ((go_at_call 47; refine (NWay_in x v4 t' b a _ hb6 ha6 (by exact (H.out.keep ((Fr.refl _ _).drew)).n.at_)).mono ?_; rintro e w8 ⟨rfl, hf⟩; have ct2 := cell_fr hf ct (fun h => h); have cb2 := cell_fr hf cb (fun h => h)))
                  have h8 := (H.out.keep ((Fr.refl _ _).drew)).keep hf
                  have hfz := World.rowIs.frozen h8.bs (b * 6 + a)
                  clear H hf ct ct2 cb g1 g2 g3
                  have H := Lib.hid h8; clear h8
                  go_wp2
                  go_roundg (6 - (b + 1))
                  case rel =>
                    refine ⟨b + 1, by omega, rfl, by go_num, (H.out.setB HWB.out (b * 6 + a) ((t'.N b).bS a)).congr (fun _ _ => rfl) (fun j hj => ?_)⟩
                    rw [mix_next t t' a b ha6 j hj]
                    have e1 : bestsF t' (b * 6 + a) = (t'.N b).bS a := by
                      unfold bestsF
                      rw [show (b * 6 + a) / 6 = b from by omega, show (b * 6 + a) % 6 = a from by omega]
                    rw [e1]
                  case measure => have := HGB.out; omega
                · obtain rfl : b = 6 := by omega
                  have h4 := H.out.congr (tk' := Nt.age t') (bs' := mixF t t' (a + 1) 0) (fun _ _ => rfl) (fun j hj => mix_col t t' a j hj)
                  clear H
                  have H := Lib.hid h4; clear h4
                  go_wp2
                  go_roundg (6 - (a + 1))
                  case rel => exact ⟨a + 1, by omega, rfl, by go_num, H.out⟩
                  case measure => have := HGA.out; omega
            · obtain rfl : a = 6 := by omega
              have h4 := H.out.congr (tk' := Nt.age t') (bs' := bestsF t') (fun _ _ => rfl) (fun j hj => by unfold mixF; rw [if_pos (by omega)])
              clear H
              have H := Lib.hid h4; clear h4
              go_wp2_with fail
              refine (News_any x v4 t' _ (by have := HS.out.ok.len; omega) H.out.n.at_).mono ?_
              rintro e w6 ⟨nv, rfl, hv, hf⟩
              have h6 := H.out.keep hf
              generalize wr.heap.size = base at *
              obtain ⟨pa, pc, rfl, j⟩ := ownsRow_rd hv
              clear H hf j
              have H := Lib.hid h6; clear h6; have HV := Lib.hid hv; clear hv
              go_wp2
              go_loopg [12] t'.news.length (fun g i wr => AgeRel4 t' (.slice pa t'.news.length pc) base w x v4 pT pB g i wr)
              case atStart => exact ⟨0, by omega, by omega, rfl, H.out, HV.out⟩
              case round =>
                clear H HV
                obtain ⟨q, hq, hgq, rfl, h4, hv⟩ := hrel
                have HGQ := Lib.hid hgq; clear hgq
                have H := Lib.hid h4; clear h4; have HV := Lib.hid hv; clear hv
                have hl40 := HS.out.ok.len
                by_cases hql : q < t'.news.length
                · have hqb : decide ((q : Int) < (t'.news.length : Int)) = true := by simp; omega
                  obtain ⟨g, rfl, d0, d1, d2, d3, d4⟩ := news_cells HV.out hql
                  obtain ⟨_, ⟨t0, t1⟩, hne, hle, _⟩ := HS.out.news (nwGet t'.news q) (Nt.nwAt_mem hql)
                  generalize nwGet t'.news q = y at *
                  obtain ⟨y1, y2, y3, y4, y5⟩ := y
                  dsimp only at d0 d1 d2 d3 d4 t0 t1 hne hle
                  obtain ⟨tt, rfl⟩ := Int.eq_ofNat_of_zero_le t0
                  rw [Int.toNat_natCast] at hle
                  have ht6 : tt < 6 := by omega
                  have ct := rowI_cell H.out.tk ht6
                  have g1 : decide (Nt.age t' tt < y4) = false := by simp; omega
                  have g2 : (y1 == y2) = false := by simpa using hne
                  have hqi : (q : Int) < (t'.news.length : Int) := by omega
                  clear t0 hne hle d4
                  go_wp2_with fail
                  go_quiet ((go_at_call 19; exact Calls.quiet_of_same (RNode_q1 tt _ ht6)))
                  go_wp2
                  go_roundg (t'.news.length - (q + 1))
                  case rel => exact ⟨q + 1, by omega, rfl, by go_num, H.out.keep ((Fr.refl _ _).drewN _), HV.out⟩
                  case measure => have := HGQ.out; omega
                · have hqb : decide ((q : Int) < (t'.news.length : Int)) = false := by simp; omega
                  have h4 : Hn w x v4 (Nt.runT X (k + 1)) pT pB (Nt.age (Nt.runT X (k + 1))) (bestsF (Nt.runT X (k + 1))) wr := by rw [HSK.out]; exact H.out
                  clear H
                  have H := Lib.hid h4; clear h4
                  go_wp2
                  go_roundg (n - (k + 1))
                  case rel => exact ⟨k + 1, v4, by omega, rfl, by go_num, H.out⟩
                  case measure => have := HG.out; omega
    · have hkb : decide ((k : Int) < (n : Int)) = false := by simp; omega
      go_wp2
      go_ret
      exact ⟨rfl, H.out.n.f⟩

set_option maxRecDepth 100000 in
set_option maxHeartbeats 2000000 in
theorem NetAges_all (a0 : Option Addr) (n0 c0 : Nat) (X0 : Nat → Int) (w : World) (r0 : Rd w a0 (n0 * 6) X0) :
    Calls Try.prog 12 #[.slice a0 n0 c0] w (TrueFr w) := by
  by_cases hn : n0 ≤ 150
  · exact NetAges_main a0 n0 c0 X0 w hn r0
  · clear r0
    go_enter Try.func12, Try.ntmps12
    go_wp2_with fail
    refine (netBegun_true _).mono ?_
    rintro e w1 ⟨rfl, hF⟩
    have HF := Lib.hid hF; clear hF
    go_wp2
    go_ret
    exact ⟨rfl, HF.out⟩
end Go.Proofs.Ytdpgbgapelgomaa
