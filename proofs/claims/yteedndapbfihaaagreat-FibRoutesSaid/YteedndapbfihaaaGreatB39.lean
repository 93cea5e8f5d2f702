/- Walks: handpostlaw.posts. -/
import Derived.Test.YteedndapbfihaaaGreatB38
import Derived.Test.YteedndapbfihaaaGreatB30
import Derived.Test.YteedndapbfihaaaGreatB35
import Derived.Test.YteedndapbfihaaaGreatB29
import Derived.Test.YteedndapbfihaaaGreatB1
import Derived.ProofKit
import Derived.OpenShut
import Derived.ShutString
import Derived.ChangeOld
import Derived.Deep.Slices
import Derived.Deep.Fields
import Derived.ChangeSame
namespace Go.Proofs.YteedndapbfihaaaGreat
open Go.RowKit Go.Deep

/-- A post and a town, apart. -/
structure PTwo (w : World) (q : PIds) (v tv : Value) (y : TIds) (u : Value) (a : Option Addr) (s s' : Fb.PT) (wr : World) : Prop where
  p : PR w q v tv s wr
  t : TwR w y u a s' wr
  ap : ∀ i, FtP q v tv i → ¬ FtW y u a i
theorem PTwo.keep {w wr wx : World} {q : PIds} {v tv : Value} {y : TIds} {u : Value} {a : Option Addr} {s s' : Fb.PT} (h : PTwo w q v tv y u a s s' wr) (hf : Fr NoB wr wx) : PTwo w q v tv y u a s s' wx := ⟨h.p.keep hf, h.t.keep hf, h.ap⟩
theorem PTwo.p_step {w wr wx : World} {q : PIds} {v tv v' tv' : Value} {y : TIds} {u : Value} {a : Option Addr} {s s1 s' : Fb.PT} (h : PTwo w q v tv y u a s s' wr) (ha : PAt wx q v' tv' s1) (hf : Fr (FtP q v tv) wr wx) (hg : ∀ i, FtP q v' tv' i → FtP q v tv i ∨ wr.heap.size ≤ i) : PTwo w q v' tv' y u a s1 s' wx := by
  refine ⟨h.p.step ha hf hg, ⟨h.t.at_.keep hf (fun i hi h' => h.ap i h' hi), (h.p.step ha hf hg).f, h.t.new⟩, fun i hi hy => ?_⟩
  have hl := h.t.at_.lt hy
  rcases hg i hi with h' | h'
  · exact h.ap i h' hy
  · omega
theorem PTwo.t_step {w wr wx : World} {q : PIds} {v tv : Value} {y : TIds} {u u' o' : Value} {a a' : Option Addr} {s s' s1 : Fb.PT} (h : PTwo w q v tv y u a s s' wr) (ha : TwAt wx { y with own := o' } u' a' s1) (hf : Fr (FtT y u) wr wx) (hg : ∀ i, FtW { y with own := o' } u' a' i → FtW y u a i ∨ wr.heap.size ≤ i) : PTwo w q v tv { y with own := o' } u' a' s s1 wx := by
  refine ⟨⟨h.p.at_.keep hf (fun i hi h' => h.ap i hi (.inl h')), (h.t.step ha hf hg).f, h.p.new⟩, h.t.step ha hf hg, fun i hi hy => ?_⟩
  have hl := h.p.at_.lt hi
  rcases hg i hy with h' | h'
  · exact h.ap i hi h'
  · omega
def PostsRel (X : Nat → Int) (n : Nat) (w : World) (q : PIds) (y : TIds) (ok i : Value) (wr : World) : Prop :=
  ∃ (k : Nat) (v tv u o : Value) (a : Option Addr), k ≤ n ∧ ok = .bool true ∧ i = .int .i64 k ∧ PTwo w q v tv { y with own := o } u a (Fb.runF Fb.begunP X k) (Fb.runF Fb.begunP X k) wr
def PostsPost (X : Nat → Int) (n : Nat) (w : World) (e : Ending) (w' : World) : Prop :=
  ∃ (q : PIds) (v tv : Value) (y : TIds) (u : Value) (a : Option Addr), e = .returned (.tuple #[.pointer (some ⟨q.p, 0, none⟩), .pointer (some ⟨y.b, 0, none⟩), .bool true]) ∧ PTwo w q v tv y u a (Fb.runF Fb.begunP X n) (Fb.runF Fb.begunP X n) w'
set_option maxRecDepth 100000 in
set_option maxHeartbeats 8000000 in
theorem posts_any (a0 : Option Addr) (n c : Nat) (X : Nat → Int) (w : World) (hn : n ≤ 200) (hX : Rd w a0 (n * 6) X) :
    Calls Tryz.prog 13 #[.slice a0 n c] w (PostsPost X n w) := by
  have HX := Lib.hid hX; clear hX
  go_enter Tryz.func13, Tryz.ntmps13
  go_wp2_with fail
  refine (NewP _).mono ?_
  rintro e w1 ⟨q, v, tv, rfl, h1⟩
  have H1 := Lib.hid h1; clear h1
  go_wp2_with fail
  refine (NewTn _).mono ?_
  rintro e w2 ⟨y, u, rfl, hn2, hf, hnew, hown⟩
  have hz := H1.out.f.size
  have h2 : PTwo w q v tv y u none Fb.begunP Fb.begunP w2 :=
    ⟨H1.out.keep hf, ⟨⟨hn2, ⟨0, hown⟩, Rs.nil _ _, fun p hp => by cases hp⟩, H1.out.f.trans hf, fun i hi => by
      rcases hi with hi | ⟨p, hp, _⟩
      · have := hnew i hi; omega
      · cases hp⟩, fun i hi hy => by
      rcases hy with hy | ⟨p, hp, _⟩
      · have := hnew i hy; have := H1.out.at_.lt hi; omega
      · cases hp⟩
  clear hn2 hf hnew hown hz H1
  have H2 := Lib.hid h2; clear h2
  go_wp2
  go_loopw [7, 8] (fun ok i wr => PostsRel X n w q y ok i wr) (fun _ i _ => n - (intOf i).toNat)
  case atStart => exact ⟨0, v, tv, u, y.own, none, by omega, rfl, rfl, H2.out⟩
  case round =>
    clear H2
    obtain ⟨k, v, tv, u, o, a, hk, rfl, rfl, h2⟩ := hrel
    have H := Lib.hid h2; clear h2
    have HR := Lib.hid (Fb.POk.runF Fb.POk.begun X k)
    by_cases hkn : k < n
    · have hkb : decide ((k : Int) < (n : Int)) = true := by simp; omega
      obtain ⟨b0, o0, rfl, c0⟩ := HX.out (k * 6) (by omega)
      obtain ⟨b1, o1, e1, c1⟩ := HX.out (k * 6 + 1) (by omega)
      obtain ⟨b2, o2, e2, c2⟩ := HX.out (k * 6 + 2) (by omega)
      obtain ⟨b3, o3, e3, c3⟩ := HX.out (k * 6 + 3) (by omega)
      obtain ⟨b4, o4, e4, c4⟩ := HX.out (k * 6 + 4) (by omega)
      obtain ⟨b5, o5, e5, c5⟩ := HX.out (k * 6 + 5) (by omega)
      cases e1; cases e2; cases e3; cases e4; cases e5
      have hst : Fb.runF Fb.begunP X (k + 1) = (Fb.doP (Fb.runF Fb.begunP X k) (X (k * 6)) (X (k * 6 + 1)) (X (k * 6 + 2)) (X (k * 6 + 3)) (X (k * 6 + 4)) (X (k * 6 + 5))).1 := rfl
      generalize X (k * 6) = x0 at *
      generalize X (k * 6 + 1) = x1 at *
      generalize X (k * 6 + 2) = x2 at *
      generalize X (k * 6 + 3) = x3 at *
      generalize X (k * 6 + 4) = x4 at *
      generalize X (k * 6 + 5) = x5 at *
      generalize hS1 : Fb.runF Fb.begunP X (k + 1) = S1 at *
      generalize Fb.runF Fb.begunP X k = S at *
      have HS1 := Lib.hid hS1; clear hS1
      obtain ⟨cc, hcc⟩ : ∃ cc, (Fb.doP S x0 x1 x2 x3 x4 x5).2 = cc := ⟨_, rfl⟩
      have hb0 : b0 < w.heap.size := World.block_lt_of_cell? w _ c0
      have c0 := cell_fr H.out.p.f c0 (fun h => h)
      have c1 := cell_fr H.out.p.f c1 (fun h => h)
      have c2 := cell_fr H.out.p.f c2 (fun h => h)
      have c3 := cell_fr H.out.p.f c3 (fun h => h)
      have c4 := cell_fr H.out.p.f c4 (fun h => h)
      have c5 := cell_fr H.out.p.f c5 (fun h => h)
      rw [← Nat.add_assoc] at c1 c2 c3 c4 c5
      have hpd : ∀ (v tv : Value) (W : World), PAt W q v tv S → Calls Tryz.prog 28 #[.pointer (some ⟨q.p, 0, none⟩), .agg #[.int .i64 x0, .int .i64 x1, .int .i64 x2, .int .i64 x3, .int .i64 x4, .int .i64 x5]] W (PDo q v tv S1 cc W) := fun v tv W h => by
        have := PDo_any q v tv S x0 x1 x2 x3 x4 x5 (0 + k) W HR.out (by omega) h
        unfold PDoSaid at this
        rw [← hst, hcc] at this
        exact this
      have htd : ∀ (o u : Value) (a : Option Addr) (W : World), TwAt W { y with own := o } u a S → Calls Tryz.prog 42 #[.pointer (some ⟨y.b, 0, none⟩), .agg #[.int .i64 x0, .int .i64 x1, .int .i64 x2, .int .i64 x3, .int .i64 x4, .int .i64 x5]] W (TwDo { y with own := o } u a S1 cc W) := fun o u a W h => by
        have := TwDo_any { y with own := o } u a S x0 x1 x2 x3 x4 x5 (0 + k) W HR.out (by omega) h
        unfold TwSaid at this
        rw [← hst, hcc] at this
        exact this
      have hce : (cc == cc) = true := by simp
      clear hst hcc
      have HPD := Lib.hid hpd; clear hpd; have HTD := Lib.hid htd; clear htd; have HB0 := Lib.hid hb0; clear hb0
      go_wp2_with fail
      go_region_held3 (fun W => W.cell? ⟨b0, o0 + k * 6, none⟩ = some (.int .i64 x0) ∧ W.cell? ⟨b0, o0 + k * 6 + 1, none⟩ = some (.int .i64 x1) ∧ W.cell? ⟨b0, o0 + k * 6 + 2, none⟩ = some (.int .i64 x2) ∧ W.cell? ⟨b0, o0 + k * 6 + 3, none⟩ = some (.int .i64 x3) ∧ W.cell? ⟨b0, o0 + k * 6 + 4, none⟩ = some (.int .i64 x4) ∧ W.cell? ⟨b0, o0 + k * 6 + 5, none⟩ = some (.int .i64 x5))
        (first | exact ⟨c0, c1, c2, c3, c4, c5⟩ | exact ⟨s0, s1, s2, s3, s4, s5⟩ | exact ⟨t0, t1, t2, t3, t4, t5⟩)
        (first | (go_at_call 28; refine (HPD.out v tv _ (by exact (H.out.keep (Fr.refl _ _).drew).p.at_)).mono ?_; rintro e w4 ⟨v4, tv4, rfl, ha, hf, hg⟩; have hno : ∀ (a : Addr), a.block = b0 → ¬ FtP q v tv a.block := (fun a e h => by have := H.out.p.new _ h; have := HB0.out; omega); have h4 := (H.out.keep (Fr.refl _ _).drew).p_step ha hf hg; have s0 := cell_fr hf c0 (hno _ rfl); have s1 := cell_fr hf c1 (hno _ rfl); have s2 := cell_fr hf c2 (hno _ rfl); have s3 := cell_fr hf c3 (hno _ rfl); have s4 := cell_fr hf c4 (hno _ rfl); have s5 := cell_fr hf c5 (hno _ rfl); clear ha hf hg hno; have H4 := Lib.hid h4; clear h4) | (go_at_call 42; refine (HTD.out o u a _ (by exact H4.out.t.at_)).mono ?_; rintro e w5 ⟨o5, u5', a5, rfl, ha, hf, hg⟩; have hno : ∀ (a' : Addr), a'.block = b0 → ¬ FtT { y with own := o } u a'.block := (fun a' e h => by have := H4.out.t.new _ (.inl h); have := HB0.out; omega); have h5 := H4.out.t_step ha hf hg; have t0 := cell_fr hf s0 (hno _ rfl); have t1 := cell_fr hf s1 (hno _ rfl); have t2 := cell_fr hf s2 (hno _ rfl); have t3 := cell_fr hf s3 (hno _ rfl); have t4 := cell_fr hf s4 (hno _ rfl); have t5 := cell_fr hf s5 (hno _ rfl); clear ha hf hg hno; have H5 := Lib.hid h5; clear h5))
      clear H4 H HR HPD HTD c0 c1 c2 c3 c4 c5 s0 s1 s2 s3 s4 s5 t0 t1 t2 t3 t4 t5
      go_wp2
      go_roundw
      case rel => exact ⟨k + 1, v4, tv4, u5', o5, a5, by omega, rfl, by go_num, by rw [HS1.out]; exact H5.out⟩
      case measure => simp [intOf]; omega
    · obtain rfl : k = n := by omega
      have hkb : decide ((k : Int) < (k : Int)) = false := by simp
      go_wp2
      refine bodyPost_ret (v := .tuple #[.pointer (some ⟨q.p, 0, none⟩), .pointer (some ⟨y.b, 0, none⟩), .bool true]) ?_ rfl ⟨q, v, tv, { y with own := o }, u, a, rfl, H.out⟩
      simp [results, Tryz.results13, go_sem]
end Go.Proofs.YteedndapbfihaaaGreat
/- Walks: a post's Full and Small. -/
namespace Go.Proofs.YteedndapbfihaaaGreat
open Go.RowKit Go.Deep

def HopPost (h : Int) (w : World) (e : Ending) (w' : World) : Prop := ∃ s d : Int, e = .returned (.agg #[.int .i64 s, .int .i64 d, .int .i64 h]) ∧ Fr NoB w w'
theorem NHop_any (x : Ids) (v : Value) (t : Nt.NT) (a : Nat) (b : Int) (w : World) (ha : a < 6) (h : NtAt w x v t) :
    Calls Tryz.prog 25 #[.pointer (some ⟨x.b, 0, none⟩), .int .i64 a, .int .i64 b] w (HopPost (hopT t b a) w) := by
  refine (NWay_at x v t a b w ha h).mono ?_
  rintro e w' ⟨rfl, hf⟩
  exact ⟨_, _, rfl, hf⟩
/-- A table of one's own. -/
def OwPost (L : List Tb.Rt) (w : World) (e : Ending) (w' : World) : Prop := ∃ (t' : Nat) (v' : Value), e = .returned (.pointer (some ⟨t', 0, none⟩)) ∧ Ow w w' t' v' L
def PFullRel (s : Fb.PT) (n : Nat) (w : World) (t' : Nat) (a : Option Addr) (i : Value) (wr : World) : Prop :=
  ∃ (k : Nat) (v' : Value), k ≤ s.o.length ∧ i = .int .i64 k ∧ Ow w wr t' v' (Fb.full s.t (s.o.take k) n) ∧ Sep wr t' v' a ∧ Rs wr a s.o
theorem PAt.offOw {w wr : World} {q : PIds} {v tv v' : Value} {s : Fb.PT} {t' : Nat} {L : List Tb.Rt} (h : PAt w q v tv s) (k : Ow w wr t' v' L) : ∀ i, FtP q v tv i → ¬ TB t' v' i := by
  intro i hi ht
  have h1 := h.lt hi
  rcases ht with e | e
  · have := k.new; omega
  · have := k.own i e; omega
set_option maxRecDepth 100000 in
set_option maxHeartbeats 8000000 in
theorem PFull_any (q : PIds) (v tv : Value) (s : Fb.PT) (n m : Nat) (w : World) (hn : n < 6) (hs : Fb.POk s m) (h : PAt w q v tv s) :
    Calls Tryz.prog 18 #[.pointer (some ⟨q.p, 0, none⟩), .int .i64 n] w (OwPost (Fb.full s.t s.o n) w) := by
  have hlen := hs.o.len
  have H := Lib.hid h; clear h; have HS := Lib.hid hs; clear hs
  have hfd := fieldHop
  go_enter Tryz.func18, Tryz.ntmps18
  go_wp2_with fail
  refine (Node_yes _ _ (by omega) (by omega)).mono ?_; rintro e w' ⟨rfl, rfl⟩
  go_wp2_with fail
  refine (NewT _).mono ?_
  rintro e w1 ⟨rfl, hT, hf⟩
  have p1 := (H.out.keep0 hf).p1
  have HT := Lib.hid hT; clear hT; have HF := Lib.hid hf; clear hf
  go_wp2_with fail
  refine (ListT_any q.tb tv s.o _ (by have := hlen; omega) (H.out.keep0 HF.out).tab).mono ?_
  rintro e w2 ⟨lv, rfl, hv, hf⟩
  have hsep := fun a n c (e : lv = .slice a n c) => clone_sep HT.out (a := a) (n := n) (c := c) (wx := w2) (K := s.o) (by rw [← e]; exact hv)
  obtain ⟨a, c, rfl, hr, _, _⟩ := hv.shape
  have hsep := hsep a _ c rfl
  have how : Ow w w2 w.heap.size (.slice none 0 0) (Fb.full s.t (s.o.take 0) n) := ⟨HT.out.keep0 hf, Nat.le_refl _, fun g hg => by (cases hg), HF.out.trans hf⟩
  clear hv hf HT HF p1
  generalize w.heap.size = t' at how hsep ⊢
  have HR := Lib.hid hr; clear hr; have HSEP := Lib.hid hsep; clear hsep; have HOW := Lib.hid how; clear how
  go_wp2
  go_loopw [18] (fun i wr => PFullRel s n w t' a i wr) (fun i _ => s.o.length - (intOf i).toNat)
  case atStart => exact ⟨0, _, by omega, rfl, HOW.out, HSEP.out, HR.out⟩
  case round =>
    clear HR HSEP HOW
    obtain ⟨k, v', hk, rfl, how, hsep, hr⟩ := hrel
    have HOW := Lib.hid how; clear how; have HSEP := Lib.hid hsep; clear hsep
    by_cases hkk : k < s.o.length
    · obtain ⟨b0, o0, rfl, c0, c1, c2⟩ := hr k hkk
      obtain ⟨hst, hsc⟩ := Fb.full_step HS.out.str hn HS.out.o hkk
      have hfw := Fb.full_wf HS.out.str hn (HS.out.o.take k)
      have hfl : (Fb.full s.t (s.o.take k) n).length ≤ 40 := by have := hlen; rw [Fb.full_len, List.length_take]; omega
      have hkb : decide ((k : Int) < (s.o.length : Int)) = true := by simp; omega
      generalize hrt : Tb.nth s.o k = r at *
      obtain ⟨⟨l, b⟩, hop⟩ := r
      dsimp only at c0 c1 c2 hst hsc
      have HR := Lib.hid hr; clear hr; have HST := Lib.hid hst; clear hst; have HSC := Lib.hid hsc; clear hsc; have HFW := Lib.hid hfw; clear hfw; have HFL := Lib.hid hfl; clear hfl
      clear hrt
      go_upto_region 7 with fail
      refine wp_name fun w3 hw3 => ?_
      have d0 : w3.cell? ⟨wr.heap.size, 0, none⟩ = some (.int .i64 l) := by rw [hw3]; simp
      have d1 : w3.cell? ⟨wr.heap.size, 1, none⟩ = some (.int .i64 b) := by rw [hw3]; simp
      have d2 : w3.cell? ⟨wr.heap.size, 2, none⟩ = some (.int .i64 hop) := by rw [hw3]; simp
      have hF : Fr NoB wr w3 := by rw [hw3]; (repeat (first | exact Fr.refl _ _ | refine Fr.alloc ?_ _ | refine Fr.setNew ?_ (by omega) _ _ | refine Fr.drewN ?_ _ | refine Fr.drew ?_))
      clear hw3 c0 c1 c2
      have HOW3 := Lib.hid (HOW.out.keep0 hF)
      have HSEP3 := Lib.hid (HSEP.out.keep0 hF)
      have HR3 := Lib.hid (HR.out.keep0 hF)
      have p0 := (H.out.keep0 HOW3.out.f).p0
      have hnb : ∀ W, Fr NoB w3 W → ¬ TB t' v' wr.heap.size := fun W _ e => by
        rcases e with e | e
        · have := World.rowIs.lt HOW.out.at_.row; omega
        · have := (World.ownsRow.lt HOW.out.at_.sl _ e).2; omega
      have hnp : ¬ TB t' v' q.p := H.out.offOw HOW.out _ (.inl rfl)
      have HNB := Lib.hid hnb; clear hnb; have HNP := Lib.hid hnp; clear hnp
      clear hF HOW HSEP HR
      generalize wr.heap.size = db at *
      go_region_held3 (fun W => W.cell? ⟨db, 0, none⟩ = some (.int .i64 l) ∧ W.cell? ⟨db, 1, none⟩ = some (.int .i64 b) ∧ W.cell? ⟨db, 2, none⟩ = some (.int .i64 hop) ∧ W.cell? ⟨q.p, 0, none⟩ = some (.pointer (some ⟨q.x.b, 0, none⟩)))
        (first | exact ⟨d0, d1, d2, p0⟩ | exact ⟨e0, e1, e2, ep⟩ | exact ⟨g0, g1, g2, gp⟩)
        (first | (go_at_call 25; refine (NHop_any q.x v s.t n hop _ hn (by exact (H.out.keep0 HOW3.out.f.drew).net)).mono ?_; rintro e w4 ⟨ws, wd, rfl, hf⟩; have hf := (Fr.refl NoB w3).drew.trans hf; have e0 := cell_fr' hf d0 (fun h => h); have e1 := cell_fr' hf d1 (fun h => h); have e2 := cell_fr' hf d2 (fun h => h); have ep := cell_fr' hf p0 (fun h => h); have HOW4 := Lib.hid (HOW3.out.keep0 hf); have HSEP4 := Lib.hid (HSEP3.out.keep0 hf); have HR4 := Lib.hid (HR3.out.keep0 hf); clear hf) | (go_at_call 45; refine (Set_any t' v' (Fb.full s.t (s.o.take k) n) l b (hopT s.t hop n) _ HFL.out HFW.out HOW4.out.at_).mono ?_; rintro e w5 ⟨rfl, v5, hT, hf, ho⟩; have g0 := cell_fr' hf e0 (HNB.out _ (Fr.refl _ _)); have g1 := cell_fr' hf e1 (HNB.out _ (Fr.refl _ _)); have g2 := cell_fr' hf e2 (HNB.out _ (Fr.refl _ _)); have gp := cell_fr' hf ep HNP.out; have HOW5 := Lib.hid (HOW4.out.set hT hf ho); have HSEP5 := Lib.hid (HSEP4.out.set hf ho); have HR5 := Lib.hid (HR4.out.sep HSEP4.out hf); clear hT hf ho))
      clear d0 d1 d2 p0 e0 e1 e2 ep g0 g1 g2 gp HOW3 HSEP3 HR3 HOW4 HSEP4 HR4
      go_wp2
      go_roundw
      case rel => exact ⟨k + 1, v5, by omega, by go_num, by rw [← HST.out]; exact HOW5.out, HSEP5.out, HR5.out⟩
      case measure => simp [intOf]; omega
    · have e : s.o.take k = s.o := List.take_of_length_le (by omega)
      rw [e] at HOW
      clear e hr
      have hkb : decide ((k : Int) < (s.o.length : Int)) = false := by simp; omega
      go_wp2
      go_ret
      exact ⟨t', v', rfl, HOW.out⟩
theorem PFull_no (q : PIds) (n : Int) (w : World) (hn : ¬ Nt.isN n) :
    Calls Tryz.prog 18 #[.pointer (some ⟨q.p, 0, none⟩), .int .i64 n] w (fun e w' => e = .returned (.pointer none) ∧ w = w') := by
  have HN := Lib.hid hn; clear hn
  go_enter Tryz.func18, Tryz.ntmps18
  go_wp2_with fail
  refine (Node_no _ _ HN.out).mono ?_; rintro e w' ⟨rfl, rfl⟩
  go_wp2
  go_ret
  exact ⟨rfl, rfl⟩
set_option maxRecDepth 100000 in
set_option maxHeartbeats 8000000 in
theorem PSmall_any (q : PIds) (v tv : Value) (s : Fb.PT) (n m : Nat) (w : World) (hn : n < 6) (hs : Fb.POk s m) (h : PAt w q v tv s) :
    Calls Tryz.prog 19 #[.pointer (some ⟨q.p, 0, none⟩), .int .i64 n] w (OwPost (Fb.small s.t s.o n) w) := by
  have hfw := Fb.full_wf hs.str hn hs.o
  have hfl : (Fb.full s.t s.o n).length ≤ 1000 := by have := hs.o.len; rw [Fb.full_len]; omega
  have h40 : (Tb.few (Fb.full s.t s.o n)).length ≤ 40 := (Fb.small_ok hs.str hn hs.o).2.2.1
  have hfu := fun W (hW : Fr NoB w W) => PFull_any q v tv s n m W hn hs (h.keep0 hW)
  clear h hs
  have HFW := Lib.hid hfw; clear hfw; have HFL := Lib.hid hfl; clear hfl; have H40 := Lib.hid h40; clear h40; have HFU := Lib.hid hfu; clear hfu
  go_enter Tryz.func19, Tryz.ntmps19
  go_wp2_with fail
  refine (HFU.out _ (Fr.refl _ _)).mono ?_
  rintro e w1 ⟨t1, v1, rfl, how⟩
  have HOW := Lib.hid how; clear how
  clear HFU
  go_wp2_with fail
  refine (Few_any t1 v1 (Fb.full s.t s.o n) _ HFL.out HFW.out HOW.out.at_).mono ?_
  rintro e w2 hd
  rcases hd with ⟨h1, _⟩ | ⟨_, t2, v2, rfl, hT, ht, hv, hf⟩
  · exact absurd H40.out (by omega)
  · have how2 : Ow w w2 t2 v2 (Fb.small s.t s.o n) := ⟨hT, Nat.le_trans HOW.out.f.size ht, fun g hg => Nat.le_trans HOW.out.f.size (hv g hg), HOW.out.f.trans hf⟩
    clear hT ht hv hf HOW
    have HOW := Lib.hid how2; clear how2
    go_wp2
    go_ret
    exact ⟨t2, v2, rfl, HOW.out⟩
theorem PSmall_no (q : PIds) (n : Int) (w : World) (hn : ¬ Nt.isN n) :
    Calls Tryz.prog 19 #[.pointer (some ⟨q.p, 0, none⟩), .int .i64 n] w (fun e w' => e = .returned (.pointer none) ∧ w = w') := by
  have HN := Lib.hid hn; clear hn
  go_enter Tryz.func19, Tryz.ntmps19
  go_wp2_with fail
  refine (PFull_no q n _ HN.out).mono ?_; rintro e w' ⟨rfl, rfl⟩
  go_wp2
  go_ret
  exact ⟨rfl, rfl⟩
end Go.Proofs.YteedndapbfihaaaGreat
/- Walks: handpostlaw.fibBegun. -/
namespace Go.Proofs.YteedndapbfihaaaGreat
open Go.RowKit Go.Deep

def fbS : Fb.PT := ⟨Nt.begun, [⟨⟨1, 1⟩, 2⟩]⟩
theorem fb_do : Fb.doP Fb.begunP 7 2 0 1 1 1 = (fbS, 0) := by
  have e1 : Tb.setL [] ⟨1, 1⟩ 2 = [⟨⟨1, 1⟩, 2⟩] := by decide
  have e2 : Tb.setC [] ⟨1, 1⟩ 2 = 0 := by decide
  rw [Fb.doP_own, Fb.ownT_yes _ (show Nt.isN 2 from ⟨by omega, by omega⟩)]
  show ((⟨Nt.begun, Tb.setL [] ⟨1, 1⟩ 2⟩ : Fb.PT), Tb.setC [] ⟨1, 1⟩ 2) = _
  rw [e1, e2]
  rfl
theorem fb_ok : Fb.POk fbS 1 := by
  have := Fb.POk.begun.doP 7 2 0 1 1 1
  rw [fb_do] at this
  exact this
theorem fb_full (n : Nat) (h : Int) (e : hopT Nt.begun 2 n = h) : Fb.full fbS.t fbS.o n = [⟨⟨1, 1⟩, h⟩] := by
  unfold Fb.full fbS Fb.fullR
  simp only [List.map_cons, List.map_nil]
  rw [e]
theorem fb_hop2 : hopT Nt.begun 2 (2 : Nat) = 2 := by decide +kernel
theorem fb_hop0 : hopT Nt.begun 2 (0 : Nat) = -1 := by decide +kernel
theorem fb_look2 : Tb.look [⟨⟨1, 1⟩, 2⟩] 200 = 2 := by decide +kernel
theorem fb_look0 : Tb.look [⟨⟨1, 1⟩, -1⟩] 200 = -1 := by decide +kernel
set_option maxRecDepth 100000 in
set_option maxHeartbeats 8000000 in
theorem fibBegun_true (w : World) : Calls Tryz.prog 12 #[] w (TrueFr w) := by
  go_enter Tryz.func12, Tryz.ntmps12
  go_wp2_with fail
  refine (NewP _).mono ?_
  rintro e w1 ⟨q, v, tv, rfl, h1⟩
  have hd := PDo_any q v tv Fb.begunP 7 2 0 1 1 1 0 w1 Fb.POk.begun (by omega) h1.at_
  unfold PDoSaid step6 at hd
  rw [fb_do] at hd
  have H := Lib.hid h1; clear h1; have HD := Lib.hid hd; clear hd
  go_wp2_with fail
  refine HD.out.mono ?_
  rintro e w2 ⟨v2, tv2, rfl, ha, hf, hg⟩
  have h2 := H.out.step ha hf hg
  clear ha hf hg HD H
  have H := Lib.hid h2; clear h2
  have hc0 : ((0 : Int) == 0) = true := by decide
  go_wp2_with fail
  refine (PFull_any q v2 tv2 fbS 2 1 _ (by omega) fb_ok H.out.at_).mono ?_
  rw [fb_full 2 2 fb_hop2]
  rintro e w3 ⟨t3, v3, rfl, how3⟩
  have h3 := H.out.keep how3.f
  clear H
  have H := Lib.hid h3; clear h3; have HA := Lib.hid how3; clear how3
  go_wp2_with fail
  refine (PFull_any q v2 tv2 fbS 0 1 _ (by omega) fb_ok H.out.at_).mono ?_
  rw [fb_full 0 (-1) fb_hop0]
  rintro e w4 ⟨t4, v4, rfl, how4⟩
  have h4 := H.out.keep how4.f
  have how3 := HA.out.keep0 how4.f
  clear H HA
  have H := Lib.hid h4; clear h4; have HA := Lib.hid how3; clear how3; have HB := Lib.hid how4; clear how4
  obtain ⟨a3, c3, e3, hr3, _, hc3⟩ := HA.out.at_.shape
  clear e3
  have HR3 := Lib.hid hr3; clear hr3
  go_wp2_with fail
  refine (Look_any t3 a3 c3 _ 200 _ (by simp) HR3.out hc3).mono ?_
  rw [fb_look2]
  rintro e w5 ⟨rfl, hf⟩
  have h5 := H.out.keep hf
  have how4 := HB.out.keep0 hf
  clear H HA HB HR3 hc3 hf
  have H := Lib.hid h5; clear h5; have HB := Lib.hid how4; clear how4
  obtain ⟨a4, c4, e4, hr4, _, hc4⟩ := HB.out.at_.shape
  clear e4
  have HR4 := Lib.hid hr4; clear hr4
  go_wp2_with fail
  refine (Look_any t4 a4 c4 _ 200 _ (by simp) HR4.out hc4).mono ?_
  rw [fb_look0]
  rintro e w6 ⟨rfl, hf⟩
  have h6 := H.out.keep hf
  clear H HB HR4 hc4 hf
  have H := Lib.hid h6; clear h6
  go_wp2_with fail
  refine (Owner_any q v2 tv2 fbS 200 _ (by simp [fbS]) H.out.at_).mono ?_
  rw [show Tb.look fbS.o 200 = 2 from fb_look2]
  rintro e w7 ⟨rfl, hf⟩
  have h7 := H.out.keep hf
  clear H hf
  have H := Lib.hid h7; clear h7
  go_wp2_with fail
  refine (Owners_any q v2 tv2 fbS _ (by simp [fbS]) H.out.at_).mono ?_
  rintro e w8 ⟨v8, rfl, hv, hf⟩
  obtain ⟨a8, c8, rfl, _⟩ := hv.shape
  have h8 := H.out.keep hf
  have hl : (fbS.o).length = 1 := rfl
  rw [hl]
  clear H hv hf hl
  have H := Lib.hid h8; clear h8
  go_wp2_with fail
  refine (PSmall_no q 6 _ (by unfold Nt.isN; omega)).mono ?_
  rintro e w9 ⟨rfl, rfl⟩
  go_wp2
  go_ret
  exact ⟨rfl, H.out.f⟩
end Go.Proofs.YteedndapbfihaaaGreat
/- A post behind a script, as the laws hold it; what all laws of owners begin with. -/
namespace Go.Proofs.YteedndapbfihaaaGreat
open Go.RowKit Go.Deep

structure PK (w : World) (q : PIds) (v tv : Value) (s : Fb.PT) (wr : World) : Prop where
  at_ : PAt wr q v tv s
  f : Fr NoB w wr
theorem PK.keep {w wr wx : World} {q : PIds} {v tv : Value} {s : Fb.PT} (h : PK w q v tv s wr) (hf : Fr NoB wr wx) : PK w q v tv s wx := ⟨h.at_.keep0 hf, h.f.trans hf⟩
structure PTK (w : World) (q : PIds) (v tv : Value) (y : TIds) (u : Value) (a : Option Addr) (s : Fb.PT) (wr : World) : Prop where
  p : PAt wr q v tv s
  t : TwAt wr y u a s
  f : Fr NoB w wr
theorem PTK.keep {w wr wx : World} {q : PIds} {v tv : Value} {y : TIds} {u : Value} {a : Option Addr} {s : Fb.PT} (h : PTK w q v tv y u a s wr) (hf : Fr NoB wr wx) : PTK w q v tv y u a s wx := ⟨h.p.keep0 hf, h.t.keep0 hf, h.f.trans hf⟩
/-- The walk of Look over a table in memory. -/
theorem LookT_any (t : Nat) (v : Value) (L : List Tb.Rt) (x : Int) (w : World) (hl : L.length ≤ 1000) (h : TAt w t v L) :
    Calls Tryz.prog 24 #[.pointer (some ⟨t, 0, none⟩), .int .i64 x] w (IntFr (Tb.look L x) w) := by
  obtain ⟨a, c, _, hr, _, hc⟩ := h.shape
  exact Look_any t a c L x w hl hr hc
end Go.Proofs.YteedndapbfihaaaGreat
/- SameRoutes of the same; the document's Look in a table. -/
namespace Go.Proofs.YteedndapbfihaaaGreat
open Go.RowKit Go.Deep

theorem SameRt_self (a a' : Option Addr) (c c' : Nat) (L : List Tb.Rt) (w : World) (hl : L.length ≤ 1000) (h : Rs w a L) (h' : Rs w a' L) :
    Calls Tryz.prog 14 #[.slice a L.length c, .slice a' L.length c'] w (BoolFr true w) := by
  have k := SameRoutes_any a a' c c' L L w hl hl h h'
  rw [decide_eq_true (rfl : L = L)] at k
  exact k
theorem RLook_wf (a : Option Addr) (c : Nat) (L : List Tb.Rt) (x : Int) (w : World) (hl : L.length ≤ 1000) (hw : Tb.Wf L) (h : Rs w a L) :
    Calls Tryz.prog 17 #[.slice a L.length c, .int .i64 x] w (IntFr (Tb.look L x) w) := by
  have k := RLook_any a c L x w hl h
  rw [(Tb.look_both hw x).1] at k
  exact k
end Go.Proofs.YteedndapbfihaaaGreat
/- What a slice of structs of integers, handed in, is to the walk: a row of integers from its address on. -/
namespace Go.Proofs.YteedndapbfihaaaGreat
open Go.RowKit Go.Deep Go.ChangeShapes Go.WideShapes Go.ChangeAt

/-- A type all whose cells are integers. -/
def AllInt (P : Program) (e : TypeId) : Prop :=
  ∀ (H : Type) (enc : TypeId × Value → H) (w : World) (base : Nat) (spare : Nat → Bool) (held : Bool) (fuel : Nat) (cs : List Value) (x : DataW H × List MemPlace),
    DataW.trod enc P w base spare held fuel e cs = some x → ∀ (i : Nat) (v : Value), cs[i]? = some v → ∃ n : Int, v = .int .i64 n ∧ (Lit.int .i64 n).wf = true

theorem AllInt.int {P : Program} {e : TypeId} (h : P.underlying e = some (.int .i64)) : AllInt P e := by
  intro H enc w base spare held fuel cs x ht i v hv
  obtain ⟨n, rfl, _, hw⟩ := DataW.trod_int h ht
  match i, hv with
  | 0, hv => simp at hv; exact ⟨n, hv.symm, hw⟩

theorem AllInt.struct {P : Program} {e : TypeId} {fs : Array Field} (h : P.underlying e = some (.struct fs))
    (hc : ∀ i, i < P.cellsOf e → ∃ (j : Nat) (f : Field), fs[j]? = some f ∧ f.offset ≤ i ∧ i < f.offset + P.cellsOf f.type ∧ AllInt P f.type) : AllInt P e := by
  intro H enc w base spare held fuel cs x ht i v hv
  obtain ⟨xs, n, _, _, hlen, hxl, hf⟩ := DataW.trod_struct h ht
  have hi : i < P.cellsOf e := by rw [← hlen]; exact (List.getElem?_eq_some_iff.1 hv).1
  obtain ⟨j, f, hj, h1, h2, hA⟩ := hc i hi
  have hjl : j < fs.size := (Array.getElem?_eq_some_iff.1 hj).1
  have hx : xs[j]? = some (xs[j]'(by omega)) := List.getElem?_eq_getElem (by omega)
  refine hA H enc w base spare held n _ _ ((hf j f hj).trans hx) (i - f.offset) v ?_
  rw [List.getElem?_take, if_pos (by omega), List.getElem?_drop, show f.offset + (i - f.offset) = i from by omega]
  exact hv

/-- A struct of integers, one cell a field. -/
theorem AllInt.ints {P : Program} {e t3 : TypeId} {fs : Array Field} {n : Nat} (h : P.underlying e = some (.struct fs)) (hn : P.cellsOf e = n) (h3 : P.cellsOf t3 = 1) (hA : AllInt P t3)
    (hf : ∀ i, i < n → ∃ f, fs[i]? = some f ∧ f.offset = i ∧ f.type = t3) : AllInt P e := by
  refine AllInt.struct h ?_
  intro i hi
  rw [hn] at hi
  obtain ⟨f, h1, h2, h4⟩ := hf i hi
  exact ⟨i, f, h1, by omega, by rw [h2, h4, h3]; omega, by rw [h4]; exact hA⟩

/-- A struct, field by field. -/
theorem AllInt.fields {P : Program} {e : TypeId} {fs : Array Field} {n : Nat} (h : P.underlying e = some (.struct fs)) (hn : P.cellsOf e = n)
    (hc : ∀ i, i < n → ∃ (j : Nat) (f : Field) (o m : Nat) (t : TypeId), fs[j]? = some f ∧ f.offset = o ∧ f.type = t ∧ P.cellsOf t = m ∧ o ≤ i ∧ i < o + m ∧ AllInt P t) : AllInt P e := by
  refine AllInt.struct h ?_
  intro i hi
  rw [hn] at hi
  obtain ⟨j, f, o, m, t, h1, rfl, rfl, h4, h5, h6, h7⟩ := hc i hi
  exact ⟨j, f, h1, h5, by rw [h4]; exact h6, h7⟩

theorem open_rd {H : Type} {enc : TypeId × Value → H} {P : Program} {w : World} {base : Nat} {spare : Nat → Bool} {held : Bool} {t e : TypeId} {size : Nat} {a : Option Addr} {len cap : Nat} {d : DataW H} {p : List MemPlace}
    (ht : P.underlying t = some (.slice e)) (hA : AllInt P e) (hs : P.cellsOf e = size) (hsz : 0 < size) (h : DataW.Trod enc P w base spare held t (.slice a len cap) d p) :
    ∃ X, Rd w a (len * size) X ∧ ∀ k, k < len * size → (Lit.int .i64 (X k)).wf = true := by
  obtain ⟨fuel, hf⟩ := h
  rcases open_slice ht hf with ⟨hcs, _⟩ | ⟨x, l, c, m, n, D, Pl, hcs, _, _, _, hm, _, hel⟩
  · simp [Value.cells] at hcs
    obtain ⟨rfl, rfl, rfl⟩ := hcs
    exact ⟨fun _ => 0, fun k hk => absurd hk (by simp), fun k hk => absurd hk (by simp)⟩
  · simp [Value.cells] at hcs
    obtain ⟨rfl, rfl, rfl⟩ := hcs
    have hlm : len ≤ m := by rw [hm]; split <;> omega
    have key : ∀ k, k < len * size → ∃ y : Int, w.cell? (x.add k) = some (.int .i64 y) ∧ (Lit.int .i64 y).wf = true := by
      intro k hk
      have hk1 : k / size < len := Nat.div_lt_of_lt_mul (by rw [Nat.mul_comm]; exact hk)
      obtain ⟨cs', h1, h2⟩ := hel (k / size) (by omega)
      obtain ⟨_, hl, hat⟩ := World.cells?_some h1
      have hk2 : k % size < size := Nat.mod_lt _ hsz
      have h3 := hat (k % size) (by rw [hs]; exact hk2)
      have hv : cs'[k % size]? = some (cs'[k % size]'(by rw [hl, hs]; exact hk2)) := List.getElem?_eq_getElem _
      obtain ⟨y, hy, hw⟩ := hA H enc w base spare held n cs' _ h2 (k % size) _ hv
      refine ⟨y, ?_, hw⟩
      rw [hs, hv, hy, Go.Deep.add_add] at h3
      rw [← h3, Nat.mul_comm, Nat.div_add_mod]
    refine ⟨fun k => if h : k < len * size then (key k h).choose else 0, fun k hk => ?_, fun k hk => ?_⟩
    · have h0 := (key 0 (by omega)).choose_spec.1
      obtain ⟨b, off, spot⟩ := x
      have hspot : spot = none := by simpa [Addr.add] using World.cell?_spot h0
      subst hspot
      refine ⟨b, off, rfl, ?_⟩
      have h1 := (key k hk).choose_spec.1
      simp only [dif_pos hk]
      rw [← h1]
      congr 1
      unfold Addr.add
      split
      · rename_i e; rw [e]; rfl
      · rfl
    · simp only [dif_pos hk]; exact (key k hk).choose_spec.2

end Go.Proofs.YteedndapbfihaaaGreat
/- A struct of integers, handed in by value. -/
namespace Go.Proofs.YteedndapbfihaaaGreat
open Go.RowKit Go.Deep Go.ChangeShapes Go.WideShapes Go.ChangeAt

theorem open_ints {H : Type} {enc : TypeId × Value → H} {P : Program} {w : World} {base : Nat} {spare : Nat → Bool} {held : Bool} {r : Reach} {b0 : Nat} {t : TypeId} {fs : Array Field} {n : Nat} {v : Value} {d : DataW H} {p : List MemPlace}
    (hs : P.underlying t = some (.struct fs)) (hA : AllInt P t) (hC : P.cellsOf t = n) (hv : Value.okWide P w r b0 t v) (h : DataW.Trod enc P w base spare held t v d p) :
    ∃ f : Nat → Int, v = .agg ((List.range n).map fun i => Value.int .i64 (f i)).toArray ∧ ∀ i, i < n → (Lit.int .i64 (f i)).wf = true := by
  obtain ⟨cs, rfl, hsz⟩ := okWide_struct hs hv
  obtain ⟨fuel, hf⟩ := h
  have key : ∀ i, i < n → ∃ y : Int, cs[i]? = some (.int .i64 y) ∧ (Lit.int .i64 y).wf = true := by
    intro i hi
    have hi' : i < cs.size := by rw [hsz, hC]; exact hi
    have h1 : (Value.agg cs).cells.toList[i]? = some cs[i] := by simp [Value.cells]
    obtain ⟨y, hy, hw⟩ := hA H enc w base spare held fuel _ _ hf i _ h1
    exact ⟨y, by rw [Array.getElem?_eq_getElem hi', hy], hw⟩
  refine ⟨fun i => if h : i < n then (key i h).choose else 0, ?_, fun i hi => ?_⟩
  · congr 1
    apply Array.ext
    · simp [hsz, hC]
    · intro i h1 h2
      have hi : i < n := by rw [hsz, hC] at h1; exact h1
      have e := Option.some.inj ((Array.getElem?_eq_getElem h1).symm.trans (key i hi).choose_spec.1)
      simp [hi]
      exact e
  · simp only [dif_pos hi]
    exact (key i hi).choose_spec.2
end Go.Proofs.YteedndapbfihaaaGreat
