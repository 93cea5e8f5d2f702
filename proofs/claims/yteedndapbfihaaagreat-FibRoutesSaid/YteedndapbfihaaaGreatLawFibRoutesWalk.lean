/- The walk of FibRoutes. -/
import Derived.Test.YteedndapbfihaaaGreatLawFibDoesWalk
import Derived.Test.YteedndapbfihaaaGreatB40
namespace Go.Proofs.YteedndapbfihaaaGreat
open Go.RowKit Go.Deep

/-- What a post's steps leave as it is. -/
def OffP (q : PIds) (v tv : Value) (wr : World) (i : Nat) : Prop := ¬ FtP q v tv i ∧ i < wr.heap.size
theorem OffP.new {q : PIds} {v tv : Value} {s : Fb.PT} {w wr : World} {i : Nat} (h : PAt w q v tv s) (hi : w.heap.size ≤ i) (hl : i < wr.heap.size) : OffP q v tv wr i :=
  ⟨fun e => by have := h.lt e; omega, hl⟩
theorem OffP.step {q : PIds} {v tv v' tv' : Value} {wr wx : World} {i : Nat} (h : OffP q v tv wr i) (hz : wr.heap.size ≤ wx.heap.size) (hg : ∀ i, FtP q v' tv' i → FtP q v tv i ∨ wr.heap.size ≤ i) : OffP q v' tv' wx i :=
  ⟨fun e => by
    rcases hg i e with k | k
    · exact h.1 k
    · have := h.2; omega, Nat.lt_of_lt_of_le h.2 hz⟩
theorem OffP.keep {q : PIds} {v tv : Value} {wr wx : World} {i : Nat} (h : OffP q v tv wr i) (hz : Fr NoB wr wx) : OffP q v tv wx i := ⟨h.1, Nat.lt_of_lt_of_le h.2 hz.size⟩
/-- All that FibRoutes holds: the post, what was, and the table of it. -/
structure FrK (w : World) (q : PIds) (v tv : Value) (S : Fb.PT) (a : Option Addr) (t : Nat) (tw : Value) (o : List Tb.Rt) (z : Nat) (x0 x1 : Int) (wr : World) : Prop where
  p : PR w q v tv S wr
  rs : Rs wr a o
  ra : ∀ p, a = some p → OffP q v tv wr p.block
  ta : TAt wr t tw o
  tof : ∀ i, TB t tw i → OffP q v tv wr i
  c0 : wr.cell? ⟨z, 0, none⟩ = some (.int .i64 x0)
  c1 : wr.cell? ⟨z, 1, none⟩ = some (.int .i64 x1)
  zo : OffP q v tv wr z
theorem FrK.keep {w wr wx : World} {q : PIds} {v tv : Value} {S : Fb.PT} {a : Option Addr} {t : Nat} {tw : Value} {o : List Tb.Rt} {z : Nat} {x0 x1 : Int} (h : FrK w q v tv S a t tw o z x0 x1 wr) (hf : Fr NoB wr wx) : FrK w q v tv S a t tw o z x0 x1 wx :=
  ⟨h.p.keep hf, h.rs.keep0 hf, fun p hp => (h.ra p hp).keep hf, h.ta.keep0 hf, fun i hi => (h.tof i hi).keep hf, cell_fr' hf h.c0 (fun h => h), cell_fr' hf h.c1 (fun h => h), h.zo.keep hf⟩
theorem FrK.step {w wr wx : World} {q : PIds} {v tv v' tv' : Value} {S S' : Fb.PT} {a : Option Addr} {t : Nat} {tw : Value} {o : List Tb.Rt} {z : Nat} {x0 x1 : Int} (h : FrK w q v tv S a t tw o z x0 x1 wr) (ha : PAt wx q v' tv' S') (hf : Fr (FtP q v tv) wr wx) (hg : ∀ i, FtP q v' tv' i → FtP q v tv i ∨ wr.heap.size ≤ i) : FrK w q v' tv' S' a t tw o z x0 x1 wx :=
  ⟨h.p.step ha hf hg, h.rs.keep hf (fun p hp => (h.ra p hp).1), fun p hp => (h.ra p hp).step hf.size hg, h.ta.keep hf (h.tof t (.inl rfl)).1 (fun g hg' => (h.tof g (.inr hg')).1), fun i hi => (h.tof i hi).step hf.size hg, cell_fr' hf h.c0 h.zo.1, cell_fr' hf h.c1 h.zo.1, h.zo.step hf.size hg⟩
theorem GetT_any (t : Nat) (v : Value) (L : List Tb.Rt) (l b : Int) (w : World) (hl : L.length ≤ 1000) (hw : Tb.Wf L) (h : TAt w t v L) :
    Calls Tryz.prog 27 #[.pointer (some ⟨t, 0, none⟩), .agg #[.int .i64 l, .int .i64 b]] w (IntFr (Tb.get L ⟨l, b⟩) w) := by
  obtain ⟨a, c, _, hr, _, hc⟩ := h.shape
  exact Get_any t a c L l b w hl hw hr hc
set_option maxRecDepth 100000 in
set_option maxHeartbeats 16000000 in
theorem FibRoutes_main (a0 : Option Addr) (n0 c0 : Nat) (X0 : Nat → Int) (x0 x1 n x : Int) (w : World) (hn0 : n0 ≤ 150) (r0 : Rd w a0 (n0 * 6) X0) :
    Calls Tryz.prog 5 #[.slice a0 n0 c0, .agg #[.int .i64 x0, .int .i64 x1], .int .i64 n, .int .i64 x] w (TrueFr w) := by
  have hnb : decide ((150 : Int) < (n0 : Int)) = false := by simp; omega
  have R0 := Lib.hid r0; clear r0
  go_enter Tryz.func5, Tryz.ntmps5
  go_upto_region 1 with fail
  refine wp_name fun wa hwa => ?_
  have d0 : wa.cell? ⟨w.heap.size, 0, none⟩ = some (.int .i64 x0) := by rw [hwa]; simp
  have d1 : wa.cell? ⟨w.heap.size, 1, none⟩ = some (.int .i64 x1) := by rw [hwa]; simp
  have hF : Fr NoB w wa := by rw [hwa]; (repeat (first | exact Fr.refl _ _ | refine Fr.alloc ?_ _ | refine Fr.setNew ?_ (by omega) _ _ | refine Fr.drewN ?_ _ | refine Fr.drew ?_))
  clear hwa
  have hzl := World.block_lt_of_cell? wa _ d0
  generalize w.heap.size = z at *
  have HF0 := Lib.hid hF; clear hF
  go_wp2_with fail
  refine (fibBegun_true _).mono ?_
  rintro e w1 ⟨rfl, hf1⟩
  have d0 := cell_fr' hf1 d0 (fun h => h)
  have d1 := cell_fr' hf1 d1 (fun h => h)
  have hzl := World.block_lt_of_cell? w1 _ d0
  have HF1 := Lib.hid (HF0.out.trans hf1)
  clear HF0 hf1
  go_wp2_with fail
  refine (posts_any a0 n0 c0 X0 _ (by omega) (Rd.keep R0.out HF1.out (fun _ _ h => h))).mono ?_
  rintro e w2 ⟨q, v, tv, y, u, al, rfl, h2⟩
  have hok := Fb.POk.runF Fb.POk.begun X0 n0
  have hp := h2.p
  have hzo : OffP q v tv w2 z := ⟨fun e => by have := hp.new _ e; omega, Nat.lt_of_lt_of_le hzl hp.f.size⟩
  have d0 := cell_fr' hp.f d0 (fun h => h)
  have d1 := cell_fr' hp.f d1 (fun h => h)
  have hp : PR w q v tv (Fb.runF Fb.begunP X0 n0) w2 := ⟨hp.at_, HF1.out.trans hp.f, fun i hi => Nat.le_trans HF1.out.size (hp.new i hi)⟩
  clear h2 HF1 R0 hzl
  generalize Fb.runF Fb.begunP X0 n0 = S at *
  have HOK := Lib.hid hok; clear hok; have HP := Lib.hid hp; clear hp; have HZO := Lib.hid hzo; clear hzo
  go_wp2_with fail
  refine (Owners_any q v tv S _ HOK.out.o.len HP.out.at_).mono ?_
  rintro e w3 ⟨v3, rfl, hv, hf⟩
  obtain ⟨a3, c3, rfl, hr3, hb3, _⟩ := hv.shape
  have hra : ∀ p, a3 = some p → OffP q v tv w3 p.block := fun p hp => OffP.new HP.out.at_ (hb3 p hp).1 (World.ownsRow.lt hv _ (hb3 p hp).2).2
  have HP3 := Lib.hid (HP.out.keep hf)
  have HZ3 := Lib.hid (HZO.out.keep hf)
  have d0 := cell_fr' hf d0 (fun h => h)
  have d1 := cell_fr' hf d1 (fun h => h)
  clear hv hf hb3 HP HZO
  have HR3 := Lib.hid hr3; clear hr3; have HRA := Lib.hid hra; clear hra
  go_wp2_with fail
  refine (OfTb_new a3 c3 S.o _ (by have := HOK.out.o.len; omega) HR3.out).mono ?_
  rintro e w4 hd
  have hck : Tb.chk S.o = 0 := by rw [Tb.chk_of_wf HOK.out.o.wf, if_neg (by have := HOK.out.o.len; omega)]
  rcases hd with ⟨h0, _⟩ | ⟨_, t4, v4, rfl, hT, ht, hv, hf⟩
  · exact absurd hck h0
  have hk : FrK w q v tv S a3 t4 v4 S.o z x0 x1 w4 :=
    ⟨HP3.out.keep hf, HR3.out.keep0 hf, fun p hp => (HRA.out p hp).keep hf, hT, fun i hi => by
      rcases hi with e | e
      · subst e; exact OffP.new HP3.out.at_ ht (World.rowIs.lt hT.row)
      · exact OffP.new HP3.out.at_ (hv i e) (World.ownsRow.lt hT.sl i e).2, cell_fr' hf d0 (fun h => h), cell_fr' hf d1 (fun h => h), HZ3.out.keep hf⟩
  clear hck hT ht hv hf HP3 HR3 HRA HZ3 d0 d1
  have H := Lib.hid hk; clear hk
  go_wp2_with fail
  refine (LookT_any t4 v4 S.o x _ (by have := HOK.out.o.len; omega) H.out.ta).mono ?_
  rintro e w5 ⟨rfl, hf⟩
  have H5 := Lib.hid (H.out.keep hf)
  clear H hf
  go_wp2_with fail
  refine (Owner_any q v tv S x _ HOK.out.o.len H5.out.p.at_).mono ?_
  rintro e w6 ⟨rfl, hf⟩
  have H6 := Lib.hid (H5.out.keep hf)
  clear H5 hf
  have hxx : (Tb.look S.o x != Tb.look S.o x) = false := by simp
  have d0 := H6.out.c0
  have d1 := H6.out.c1
  go_wp2_with fail
  refine (GetT_any t4 v4 S.o x0 x1 _ (by have := HOK.out.o.len; omega) HOK.out.o.wf H6.out.ta).mono ?_
  rintro e w7 ⟨rfl, hf⟩
  have H7 := Lib.hid (H6.out.keep hf)
  clear H6 hf d0 d1
  by_cases hg : Tb.get S.o ⟨x0, x1⟩ = -2
  · have hgb : (Tb.get S.o ⟨x0, x1⟩ != -2) = false := by simpa using hg
    have hdo : PDoSaid q v tv S 7 n 0 1 x0 x1 w7 := PDo_any q v tv S 7 n 0 1 x0 x1 (0 + n0) w7 HOK.out (by omega) H7.out.p.at_
    unfold PDoSaid step6 at hdo
    rw [Fb.doP_own] at hdo
    have hok1 := HOK.out.o.own n 1 x0 x1
    have hback := Fb.own_back HOK.out.o (n := n) hg
    generalize hcc : (Fb.ownT S.o n 1 x0 x1).2 = cc at *
    generalize hS1 : (Fb.ownT S.o n 1 x0 x1).1 = o1 at *
    dsimp only at hdo
    have d0 := H7.out.c0
    have d1 := H7.out.c1
    clear hcc hS1
    have HDO := Lib.hid hdo; clear hdo; have HOK1 := Lib.hid hok1; clear hok1; have HBACK := Lib.hid hback; clear hback; have HG := Lib.hid hg; clear hg
    go_wp2_with fail
    refine HDO.out.mono ?_
    rintro e w8 ⟨v8, tv8, rfl, ha, hf, hgr⟩
    have H8 := Lib.hid (H7.out.step ha hf hgr)
    clear ha hf hgr HDO H7 d0 d1
    by_cases hc0 : cc = 0
    · subst hc0
      obtain ⟨hb1, hb2⟩ := HBACK.out rfl
      have hc0b : ((0 : Int) != 0) = false := by decide
      have hdo2 := fun (W : World) (h : PAt W q v8 tv8 ⟨S.t, o1⟩) => PDo_any q v8 tv8 ⟨S.t, o1⟩ 7 n 0 0 x0 x1 (0 + n0) W ⟨HOK.out.str, HOK1.out⟩ (by omega) h
      unfold PDoSaid step6 at hdo2
      rw [Fb.doP_own] at hdo2
      dsimp only at hdo2
      rw [hb1] at hdo2
      dsimp only at hdo2
      clear hb1 HBACK
      have d0 := H8.out.c0
      have d1 := H8.out.c1
      have HDO2 := Lib.hid hdo2; clear hdo2; have HB2 := Lib.hid hb2; clear hb2
      by_cases hh : Tb.has ⟨x0, x1⟩ x
      · have hdh := decide_eq_true hh
        have HDH := Lib.hid hdh; clear hdh
        go_wp2_with fail
        refine (RHas_any x0 x1 x _).mono ?_
        rw [HDH.out]
        rintro e w9 ⟨rfl, hf⟩
        have H9 := Lib.hid (H8.out.keep hf)
        clear H8 hf d0 d1
        have hlen1 := HOK1.out.len
        go_wp2_with fail
        refine (Owner_any q v8 tv8 ⟨S.t, o1⟩ x _ hlen1 H9.out.p.at_).mono ?_
        rintro e w10 ⟨rfl, hf⟩
        have H10 := Lib.hid (H9.out.keep hf)
        clear H9 hf
        dsimp only
        by_cases ho : Tb.look o1 x = n
        · have hob : (Tb.look o1 x != n) = false := by simpa using ho
          clear ho hh
          have d0 := H10.out.c0
          have d1 := H10.out.c1
          go_wp2_with fail
          refine (HDO2.out _ H10.out.p.at_).mono ?_
          rintro e w11 ⟨v11, tv11, rfl, ha, hf, hgr⟩
          have H11 := Lib.hid (H10.out.step ha hf hgr)
          clear H10 ha hf hgr HDO2 d0 d1
          go_wp2_with fail
          refine (Owners_any q v11 tv11 ⟨S.t, S.o⟩ _ HOK.out.o.len H11.out.p.at_).mono ?_
          rintro e w12 ⟨v12, rfl, hv, hf⟩
          obtain ⟨a12, c12, rfl, hr12, _⟩ := hv.shape
          have H12 := Lib.hid (H11.out.keep hf)
          have HR12 := Lib.hid hr12
          clear H11 hv hf hr12
          go_wp2_with fail
          refine (SameRt_self a3 a12 c3 c12 S.o _ (by have := HOK.out.o.len; omega) H12.out.rs HR12.out).mono ?_
          rintro e w13 ⟨rfl, hf⟩
          have H13 := Lib.hid (H12.out.p.f.trans hf)
          clear H12 HR12 hf
          go_wp2
          go_ret
          exact ⟨rfl, H13.out⟩
        · have hob : (Tb.look o1 x != n) = true := by simpa using ho
          have hlo : Tb.look S.o x ≠ -1 := fun e => ho (HB2.out x hh e)
          have hlb : (Tb.look S.o x == -1) = false := by simpa using hlo
          clear ho hh hlo
          go_wp2_with fail
          refine (LookT_any t4 v4 S.o x _ (by have := HOK.out.o.len; omega) H10.out.ta).mono ?_
          rintro e w10b ⟨rfl, hf⟩
          have H10b := Lib.hid (H10.out.keep hf)
          clear H10 hf
          have d0 := H10b.out.c0
          have d1 := H10b.out.c1
          go_wp2_with fail
          refine (HDO2.out _ H10b.out.p.at_).mono ?_
          rintro e w11 ⟨v11, tv11, rfl, ha, hf, hgr⟩
          have H11 := Lib.hid (H10b.out.step ha hf hgr)
          clear H10b ha hf hgr HDO2 d0 d1
          go_wp2_with fail
          refine (Owners_any q v11 tv11 ⟨S.t, S.o⟩ _ HOK.out.o.len H11.out.p.at_).mono ?_
          rintro e w12 ⟨v12, rfl, hv, hf⟩
          obtain ⟨a12, c12, rfl, hr12, _⟩ := hv.shape
          have H12 := Lib.hid (H11.out.keep hf)
          have HR12 := Lib.hid hr12
          clear H11 hv hf hr12
          go_wp2_with fail
          refine (SameRt_self a3 a12 c3 c12 S.o _ (by have := HOK.out.o.len; omega) H12.out.rs HR12.out).mono ?_
          rintro e w13 ⟨rfl, hf⟩
          have H13 := Lib.hid (H12.out.p.f.trans hf)
          clear H12 HR12 hf
          go_wp2
          go_ret
          exact ⟨rfl, H13.out⟩
      · have hdh := decide_eq_false hh
        have HDH := Lib.hid hdh; clear hdh
        clear hh
        go_wp2_with fail
        refine (RHas_any x0 x1 x _).mono ?_
        rw [HDH.out]
        rintro e w9 ⟨rfl, hf⟩
        have H9 := Lib.hid (H8.out.keep hf)
        clear H8 hf d0 d1
        have d0 := H9.out.c0
        have d1 := H9.out.c1
        go_wp2_with fail
        refine (HDO2.out _ H9.out.p.at_).mono ?_
        rintro e w11 ⟨v11, tv11, rfl, ha, hf, hgr⟩
        have H11 := Lib.hid (H9.out.step ha hf hgr)
        clear H9 ha hf hgr HDO2 d0 d1
        go_wp2_with fail
        refine (Owners_any q v11 tv11 ⟨S.t, S.o⟩ _ HOK.out.o.len H11.out.p.at_).mono ?_
        rintro e w12 ⟨v12, rfl, hv, hf⟩
        obtain ⟨a12, c12, rfl, hr12, _⟩ := hv.shape
        have H12 := Lib.hid (H11.out.keep hf)
        have HR12 := Lib.hid hr12
        clear H11 hv hf hr12
        go_wp2_with fail
        refine (SameRt_self a3 a12 c3 c12 S.o _ (by have := HOK.out.o.len; omega) H12.out.rs HR12.out).mono ?_
        rintro e w13 ⟨rfl, hf⟩
        have H13 := Lib.hid (H12.out.p.f.trans hf)
        clear H12 HR12 hf
        go_wp2
        go_ret
        exact ⟨rfl, H13.out⟩
    · have hc0b : (cc != 0) = true := by simpa using hc0
      clear hc0
      go_wp2
      go_ret
      exact ⟨rfl, H8.out.p.f⟩
  · have hgb : (Tb.get S.o ⟨x0, x1⟩ != -2) = true := by simpa using hg
    clear hg
    go_wp2
    go_ret
    exact ⟨rfl, H7.out.p.f⟩
set_option maxRecDepth 100000 in
set_option maxHeartbeats 2000000 in
theorem FibRoutes_all (a0 : Option Addr) (n0 c0 : Nat) (X0 : Nat → Int) (f1 : Nat → Int) (a2 a3 : Int) (w : World) (r0 : Rd w a0 (n0 * 6) X0) :
    Calls Tryz.prog 5 #[.slice a0 n0 c0, .agg #[.int .i64 (f1 0), .int .i64 (f1 1)], .int .i64 a2, .int .i64 a3] w (TrueFr w) := by
  by_cases hn : n0 ≤ 150
  · exact FibRoutes_main a0 n0 c0 X0 (f1 0) (f1 1) a2 a3 w hn r0
  · clear r0
    have hnb : decide ((150 : Int) < (n0 : Int)) = true := by simp; omega
    go_enter Tryz.func5, Tryz.ntmps5
    go_wp2_with fail
    refine (fibBegun_true _).mono ?_
    rintro e w1 ⟨rfl, hF⟩
    have HF := Lib.hid ((((Fr.refl NoB w).alloc _).trans hF))
    clear hF
    go_wp2
    go_ret
    exact ⟨rfl, HF.out⟩
end Go.Proofs.YteedndapbfihaaaGreat
