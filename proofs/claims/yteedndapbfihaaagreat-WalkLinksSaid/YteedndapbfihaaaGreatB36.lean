/- Walks: a post's Full and Small. -/
import Derived.Test.YteedndapbfihaaaGreatB35
import Derived.Test.YteedndapbfihaaaGreatB28
import Derived.Test.YteedndapbfihaaaGreatB32
import Derived.Test.YteedndapbfihaaaGreatB26
import Derived.Test.YteedndapbfihaaaGreatB12
namespace Go.Proofs.YteedndapbfihaaaGreat
open Go.RowKit Go.Deep

def HopPost (h : Int) (w : World) (e : Ending) (w' : World) : Prop := ∃ s d : Int, e = .returned (.agg #[.int .i64 s, .int .i64 d, .int .i64 h]) ∧ Fr NoB w w'
theorem NHop_any (x : Ids) (v : Value) (t : Nt.NT) (a : Nat) (b : Int) (w : World) (ha : a < 6) (h : NtAt w x v t) :
    Calls Tryz.prog 25 #[.pointer (some ⟨x.b, 0, none⟩), .int .i64 a, .int .i64 b] w (HopPost (hopT t b a) w) := by
  refine (NWay_at x v t a b w ha h).mono ?_
  rintro e w' ⟨rfl, hf⟩
  exact ⟨_, _, rfl, hf⟩
/-- A table of one's own. -/
def OwPost (L : List Tb.Rt) (w : World) (e : Ending) (w' : World) : Prop := ∃ (t' : Nat) (v' : Value), e = .returned (.pointer (some ⟨t', 0, none⟩)) ∧ Ow w w' t' v' L
def PFullRel (s : Fb.PT) (n : Nat) (w : World) (t' : Nat) (a : Option Addr) (i : Value) (wr : World) : Prop :=
  ∃ (k : Nat) (v' : Value), k ≤ s.o.length ∧ i = .int .i64 k ∧ Ow w wr t' v' (Fb.full s.t (s.o.take k) n) ∧ Sep wr t' v' a ∧ Rs wr a s.o
theorem PAt.offOw {w wr : World} {q : PIds} {v tv v' : Value} {s : Fb.PT} {t' : Nat} {L : List Tb.Rt} (h : PAt w q v tv s) (k : Ow w wr t' v' L) : ∀ i, FtP q v tv i → ¬ TB t' v' i := by
  intro i hi ht
  have h1 := h.lt hi
  rcases ht with e | e
  · have := k.new; omega
  · have := k.own i e; omega
set_option maxRecDepth 100000 in
set_option maxHeartbeats 8000000 in
theorem PFull_any (q : PIds) (v tv : Value) (s : Fb.PT) (n m : Nat) (w : World) (hn : n < 6) (hs : Fb.POk s m) (h : PAt w q v tv s) :
    Calls Tryz.prog 18 #[.pointer (some ⟨q.p, 0, none⟩), .int .i64 n] w (OwPost (Fb.full s.t s.o n) w) := by
  have hlen := hs.o.len
  have H := Lib.hid h; clear h; have HS := Lib.hid hs; clear hs
  have hfd := fieldHop
  go_enter Tryz.func18, Tryz.ntmps18
  go_wp2_with fail
  refine (Node_yes _ _ (by omega) (by omega)).mono ?_; rintro e w' ⟨rfl, rfl⟩
  go_wp2_with fail
  refine (NewT _).mono ?_
  rintro e w1 ⟨rfl, hT, hf⟩
  have p1 := (H.out.keep0 hf).p1
  have HT := Lib.hid hT; clear hT; have HF := Lib.hid hf; clear hf
  go_wp2_with fail
  refine (ListT_any q.tb tv s.o _ (by have := hlen; omega) (H.out.keep0 HF.out).tab).mono ?_
  rintro e w2 ⟨lv, rfl, hv, hf⟩
  have hsep := fun a n c (e : lv = .slice a n c) => clone_sep HT.out (a := a) (n := n) (c := c) (wx := w2) (K := s.o) (by rw [← e]; exact hv)
  obtain ⟨a, c, rfl, hr, _, _⟩ := hv.shape
  have hsep := hsep a _ c rfl
  have how : Ow w w2 w.heap.size (.slice none 0 0) (Fb.full s.t (s.o.take 0) n) := ⟨HT.out.keep0 hf, Nat.le_refl _, fun g hg => by (cases hg), HF.out.trans hf⟩
  clear hv hf HT HF p1
  generalize w.heap.size = t' at how hsep ⊢
  have HR := Lib.hid hr; clear hr; have HSEP := Lib.hid hsep; clear hsep; have HOW := Lib.hid how; clear how
  go_wp2
  go_loopw [18] (fun i wr => PFullRel s n w t' a i wr) (fun i _ => s.o.length - (intOf i).toNat)
  case atStart => exact ⟨0, _, by omega, rfl, HOW.out, HSEP.out, HR.out⟩
  case round =>
    clear HR HSEP HOW
    obtain ⟨k, v', hk, rfl, how, hsep, hr⟩ := hrel
    have HOW := Lib.hid how; clear how; have HSEP := Lib.hid hsep; clear hsep
    by_cases hkk : k < s.o.length
    · obtain ⟨b0, o0, rfl, c0, c1, c2⟩ := hr k hkk
      obtain ⟨hst, hsc⟩ := Fb.full_step HS.out.str hn HS.out.o hkk
      have hfw := Fb.full_wf HS.out.str hn (HS.out.o.take k)
      have hfl : (Fb.full s.t (s.o.take k) n).length ≤ 40 := by have := hlen; rw [Fb.full_len, List.length_take]; omega
      have hkb : decide ((k : Int) < (s.o.length : Int)) = true := by simp; omega
      generalize hrt : Tb.nth s.o k = r at *
      obtain ⟨⟨l, b⟩, hop⟩ := r
      dsimp only at c0 c1 c2 hst hsc
      have HR := Lib.hid hr; clear hr; have HST := Lib.hid hst; clear hst; have HSC := Lib.hid hsc; clear hsc; have HFW := Lib.hid hfw; clear hfw; have HFL := Lib.hid hfl; clear hfl
      clear hrt
      go_upto_region 7 with fail
      refine wp_name fun w3 hw3 => ?_
      have d0 : w3.cell? ⟨wr.heap.size, 0, none⟩ = some (.int .i64 l) := by rw [hw3]; simp
      have d1 : w3.cell? ⟨wr.heap.size, 1, none⟩ = some (.int .i64 b) := by rw [hw3]; simp
      have d2 : w3.cell? ⟨wr.heap.size, 2, none⟩ = some (.int .i64 hop) := by rw [hw3]; simp
      have hF : Fr NoB wr w3 := by rw [hw3]; (repeat (first | exact Fr.refl _ _ | refine Fr.alloc ?_ _ | refine Fr.setNew ?_ (by omega) _ _ | refine Fr.drewN ?_ _ | refine Fr.drew ?_))
      clear hw3 c0 c1 c2
      have HOW3 := Lib.hid (HOW.out.keep0 hF)
      have HSEP3 := Lib.hid (HSEP.out.keep0 hF)
      have HR3 := Lib.hid (HR.out.keep0 hF)
      have p0 := (H.out.keep0 HOW3.out.f).p0
      have hnb : ∀ W, Fr NoB w3 W → ¬ TB t' v' wr.heap.size := fun W _ e => by
        rcases e with e | e
        · have := World.rowIs.lt HOW.out.at_.row; omega
        · have := (World.ownsRow.lt HOW.out.at_.sl _ e).2; omega
      have hnp : ¬ TB t' v' q.p := H.out.offOw HOW.out _ (.inl rfl)
      have HNB := Lib.hid hnb; clear hnb; have HNP := Lib.hid hnp; clear hnp
      clear hF HOW HSEP HR
      generalize wr.heap.size = db at *
      go_region_held3 (fun W => W.cell? ⟨db, 0, none⟩ = some (.int .i64 l) ∧ W.cell? ⟨db, 1, none⟩ = some (.int .i64 b) ∧ W.cell? ⟨db, 2, none⟩ = some (.int .i64 hop) ∧ W.cell? ⟨q.p, 0, none⟩ = some (.pointer (some ⟨q.x.b, 0, none⟩)))
        (first | exact ⟨d0, d1, d2, p0⟩ | exact ⟨e0, e1, e2, ep⟩ | exact ⟨g0, g1, g2, gp⟩)
        (first | (go_at_call 25; refine (NHop_any q.x v s.t n hop _ hn (by exact (H.out.keep0 HOW3.out.f.drew).net)).mono ?_; rintro e w4 ⟨ws, wd, rfl, hf⟩; have hf := (Fr.refl NoB w3).drew.trans hf; have e0 := cell_fr' hf d0 (fun h => h); have e1 := cell_fr' hf d1 (fun h => h); have e2 := cell_fr' hf d2 (fun h => h); have ep := cell_fr' hf p0 (fun h => h); have HOW4 := Lib.hid (HOW3.out.keep0 hf); have HSEP4 := Lib.hid (HSEP3.out.keep0 hf); have HR4 := Lib.hid (HR3.out.keep0 hf); clear hf) | (go_at_call 45; refine (Set_any t' v' (Fb.full s.t (s.o.take k) n) l b (hopT s.t hop n) _ HFL.out HFW.out HOW4.out.at_).mono ?_; rintro e w5 ⟨rfl, v5, hT, hf, ho⟩; have g0 := cell_fr' hf e0 (HNB.out _ (Fr.refl _ _)); have g1 := cell_fr' hf e1 (HNB.out _ (Fr.refl _ _)); have g2 := cell_fr' hf e2 (HNB.out _ (Fr.refl _ _)); have gp := cell_fr' hf ep HNP.out; have HOW5 := Lib.hid (HOW4.out.set hT hf ho); have HSEP5 := Lib.hid (HSEP4.out.set hf ho); have HR5 := Lib.hid (HR4.out.sep HSEP4.out hf); clear hT hf ho))
      clear d0 d1 d2 p0 e0 e1 e2 ep g0 g1 g2 gp HOW3 HSEP3 HR3 HOW4 HSEP4 HR4
      go_wp2
      go_roundw
      case rel => exact ⟨k + 1, v5, by omega, by go_num, by rw [← HST.out]; exact HOW5.out, HSEP5.out, HR5.out⟩
      case measure => simp [intOf]; omega
    · have e : s.o.take k = s.o := List.take_of_length_le (by omega)
      rw [e] at HOW
      clear e hr
      have hkb : decide ((k : Int) < (s.o.length : Int)) = false := by simp; omega
      go_wp2
      go_ret
      exact ⟨t', v', rfl, HOW.out⟩
set_option maxRecDepth 100000 in
set_option maxHeartbeats 8000000 in
theorem PSmall_any (q : PIds) (v tv : Value) (s : Fb.PT) (n m : Nat) (w : World) (hn : n < 6) (hs : Fb.POk s m) (h : PAt w q v tv s) :
    Calls Tryz.prog 19 #[.pointer (some ⟨q.p, 0, none⟩), .int .i64 n] w (OwPost (Fb.small s.t s.o n) w) := by
  have hfw := Fb.full_wf hs.str hn hs.o
  have hfl : (Fb.full s.t s.o n).length ≤ 1000 := by have := hs.o.len; rw [Fb.full_len]; omega
  have h40 : (Tb.few (Fb.full s.t s.o n)).length ≤ 40 := (Fb.small_ok hs.str hn hs.o).2.2.1
  have hfu := fun W (hW : Fr NoB w W) => PFull_any q v tv s n m W hn hs (h.keep0 hW)
  clear h hs
  have HFW := Lib.hid hfw; clear hfw; have HFL := Lib.hid hfl; clear hfl; have H40 := Lib.hid h40; clear h40; have HFU := Lib.hid hfu; clear hfu
  go_enter Tryz.func19, Tryz.ntmps19
  go_wp2_with fail
  refine (HFU.out _ (Fr.refl _ _)).mono ?_
  rintro e w1 ⟨t1, v1, rfl, how⟩
  have HOW := Lib.hid how; clear how
  clear HFU
  go_wp2_with fail
  refine (Few_any t1 v1 (Fb.full s.t s.o n) _ HFL.out HFW.out HOW.out.at_).mono ?_
  rintro e w2 hd
  rcases hd with ⟨h1, _⟩ | ⟨_, t2, v2, rfl, hT, ht, hv, hf⟩
  · exact absurd H40.out (by omega)
  · have how2 : Ow w w2 t2 v2 (Fb.small s.t s.o n) := ⟨hT, Nat.le_trans HOW.out.f.size ht, fun g hg => Nat.le_trans HOW.out.f.size (hv g hg), HOW.out.f.trans hf⟩
    clear hT ht hv hf HOW
    have HOW := Lib.hid how2; clear how2
    go_wp2
    go_ret
    exact ⟨t2, v2, rfl, HOW.out⟩
end Go.Proofs.YteedndapbfihaaaGreat
/- A post behind a script, as the laws hold it; what all laws of owners begin with. -/
namespace Go.Proofs.YteedndapbfihaaaGreat
open Go.RowKit Go.Deep

structure PK (w : World) (q : PIds) (v tv : Value) (s : Fb.PT) (wr : World) : Prop where
  at_ : PAt wr q v tv s
  f : Fr NoB w wr
theorem PK.keep {w wr wx : World} {q : PIds} {v tv : Value} {s : Fb.PT} (h : PK w q v tv s wr) (hf : Fr NoB wr wx) : PK w q v tv s wx := ⟨h.at_.keep0 hf, h.f.trans hf⟩
structure PTK (w : World) (q : PIds) (v tv : Value) (y : TIds) (u : Value) (a : Option Addr) (s : Fb.PT) (wr : World) : Prop where
  p : PAt wr q v tv s
  t : TwAt wr y u a s
  f : Fr NoB w wr
theorem PTK.keep {w wr wx : World} {q : PIds} {v tv : Value} {y : TIds} {u : Value} {a : Option Addr} {s : Fb.PT} (h : PTK w q v tv y u a s wr) (hf : Fr NoB wr wx) : PTK w q v tv y u a s wx := ⟨h.p.keep0 hf, h.t.keep0 hf, h.f.trans hf⟩
/-- The walk of Look over a table in memory. -/
theorem LookT_any (t : Nat) (v : Value) (L : List Tb.Rt) (x : Int) (w : World) (hl : L.length ≤ 1000) (h : TAt w t v L) :
    Calls Tryz.prog 24 #[.pointer (some ⟨t, 0, none⟩), .int .i64 x] w (IntFr (Tb.look L x) w) := by
  obtain ⟨a, c, _, hr, _, hc⟩ := h.shape
  exact Look_any t a c L x w hl hr hc
end Go.Proofs.YteedndapbfihaaaGreat
/- It settles. -/
namespace Go.Proofs.YteedndapbfihaaaGreat.Nt
open Nd

def tw (t : NT) (a b k : Nat) : Nw := ⟨(t.N a).me, b, k, (t.N a).wS k, (t.N a).wD k⟩
/-- One hears one news of what another one tells now. -/
def ev (t : NT) (a b k : Nat) : NT := (Nt.heard t (tw t a b k)).1
theorem tellW_succ (s : NS) (who : Int) (k : Nat) : tellW s who (k + 1) = tellW s who k ++ [⟨s.me, who, k, s.wS k, s.wD k⟩] := by simp [tellW, List.range_succ]
theorem hearL_app (t : NT) (l m : List Nw) : hearL t (l ++ m) = hearL (hearL t l) m := by simp [hearL]
theorem ev_other (t : NT) (a b k : Nat) {c : Nat} (h : c ≠ b) : (ev t a b k).N c = t.N c := by
  show (upN t.N ((b : Int)).toNat _ c) = _
  rw [Int.toNat_natCast]
  exact upN_other _ _ _ _ h
section
variable {Inv : NT → Prop} {Φ : NT → Nat → Nat → Prop} {dst : Nat} {C : Nat → Nat → Int} (hd : dst < 6)
  (hC : ∀ t, Inv t → t.C = C) (hself : ∀ a, a < 6 → C a a = 0)
  (hInv : ∀ t a b k, a < 6 → b < 6 → k < 6 → 0 < C a b → a ≠ b → Inv t → Inv (ev t a b k))
  (hest : ∀ t a b, a < 6 → b < 6 → 0 < C a b → a ≠ b → Inv t → Φ (ev t a b dst) b a)
  (hpres : ∀ t a b k f c, a < 6 → b < 6 → k < 6 → 0 < C a b → a ≠ b → c < 6 → f < 6 → Inv t → Φ t c f → Φ (ev t a b k) c f)
include hInv hest hpres
theorem tell_gen {a b : Nat} (ha : a < 6) (hb : b < 6) (hab : 0 < C a b) (hne : a ≠ b) {t : NT} (h : Inv t) : ∀ n, n ≤ 6 →
    Inv (hearL t (tellW (t.N a) b n)) ∧ (hearL t (tellW (t.N a) b n)).N a = t.N a ∧ (dst < n → Φ (hearL t (tellW (t.N a) b n)) b a) ∧ ∀ c f, c < 6 → f < 6 → Φ t c f → Φ (hearL t (tellW (t.N a) b n)) c f
  | 0, _ => ⟨h, rfl, fun h => by omega, fun _ _ _ _ h => h⟩
  | n + 1, hn => by
    obtain ⟨h1, h2, h3, h4⟩ := tell_gen ha hb hab hne h n (by omega)
    have e : hearL t (tellW (t.N a) b (n + 1)) = ev (hearL t (tellW (t.N a) b n)) a b n := by
      rw [tellW_succ, hearL_app]
      show (Nt.heard _ _).1 = (Nt.heard _ _).1
      unfold tw
      rw [h2]
    rw [e]
    refine ⟨hInv _ a b n ha hb (by omega) hab hne h1, by rw [ev_other _ _ _ _ hne, h2], fun hdn => ?_, fun c f hc hf hp => hpres _ a b n f c ha hb (by omega) hab hne hc hf h1 (h4 c f hc hf hp)⟩
    by_cases e2 : dst = n
    · subst e2; exact hest _ a b ha hb hab hne h1
    · exact hpres _ a b n a b ha hb (by omega) hab hne hb ha h1 (h3 (by omega))
include hd hself
theorem tellB_gen {a : Nat} (ha : a < 6) : ∀ (bs : List Nat) {t : NT}, (∀ b ∈ bs, b < 6 ∧ 0 < C a b) → Inv t → Inv (tellB t a bs) ∧ (∀ b ∈ bs, Φ (tellB t a bs) b a) ∧ ∀ c f, c < 6 → f < 6 → Φ t c f → Φ (tellB t a bs) c f
  | [], _, _, h => ⟨h, fun _ hb => (by cases hb), fun _ _ _ _ h => h⟩
  | b :: bs, t, hbs, h => by
    obtain ⟨hb, hab⟩ := hbs b (by simp)
    have hne : a ≠ b := fun e => by subst e; rw [hself a ha] at hab; omega
    obtain ⟨h1, _, h3, h4⟩ := tell_gen (Φ := Φ) (dst := dst) (C := C) hInv hest hpres ha hb hab hne h 6 (by omega)
    obtain ⟨k1, k2, k3⟩ := tellB_gen ha bs (t := hearL t (tellW (t.N a) b 6)) (fun c hc => hbs c (by simp [hc])) h1
    refine ⟨k1, fun c hc => ?_, fun c f hc hf hp => k3 c f hc hf (h4 c f hc hf hp)⟩
    rcases List.mem_cons.1 hc with e | hc
    · subst e; exact k3 c a hb ha (h3 hd)
    · exact k2 c hc
include hC
theorem roundK_gen {t : NT} (h : Inv t) : ∀ n, n ≤ 6 → Inv (roundK t n) ∧ ∀ a b, a < n → b < 6 → 0 < C a b → Φ (roundK t n) b a
  | 0, _ => ⟨h, fun a b ha => by omega⟩
  | n + 1, hn => by
    obtain ⟨h1, h2⟩ := roundK_gen h n (by omega)
    have e := hC _ h1
    have hm : ∀ b, b ∈ ofL (roundK t n).C n 6 ↔ b < 6 ∧ 0 < C n b := by
      intro b; rw [e]; simp [ofL]
    obtain ⟨k1, k2, k3⟩ := tellB_gen (Φ := Φ) (dst := dst) (C := C) hd hself hInv hest hpres (a := n) (by omega) (ofL (roundK t n).C n 6) (t := roundK t n) (fun b hb => (hm b).1 hb) h1
    refine ⟨k1, fun a b ha hb hc => ?_⟩
    by_cases e2 : a = n
    · subst e2; exact k2 b ((hm b).2 ⟨hb, hc⟩)
    · exact k3 b a hb (by omega) (h2 a b (by omega) hb hc)
end

theorem Str.evT {t : NT} {n : Nat} (h : Str t n) {a b k : Nat} (ha : a < 6) (hb : b < 6) (hk : k < 6) (hne : a ≠ b) : Str (ev t a b k) n := by
  have hme := h.ok.me a ha
  refine h.heardT (x := tw t a b k) ⟨by show (0 : Int) ≤ (b : Int); omega, by show (b : Int) < 6; omega⟩ ⟨?_, ?_, ?_, ?_, ?_⟩
  · show isN ((t.N a).me : Int)
    rw [hme]; exact ⟨by omega, by omega⟩
  · exact ⟨by show (0 : Int) ≤ (k : Int); omega, by show (k : Int) < 6; omega⟩
  · show ((t.N a).me : Int) ≠ (b : Int)
    rw [hme]; omega
  · show (t.N a).wS k ≤ age t ((k : Int)).toNat
    rw [Int.toNat_natCast]; exact (h.cap a ha k hk).1
  · show betB ((t.N a).wS k) ((t.N a).wD k) ((t.N ((t.N a).me : Int).toNat).bS ((k : Int)).toNat) ((t.N ((t.N a).me : Int).toNat).bD ((k : Int)).toNat) = false
    rw [Int.toNat_natCast, Int.toNat_natCast, hme]
    exact (h.nice a ha).w2.told k hk
/-- What it is. -/
theorem ev_at {t : NT} {n : Nat} (h : Str t n) {a b k : Nat} (ha : a < 6) (hb : b < 6) (hk : k < 6) (hne : a ≠ b) (hc : 0 < t.C a b) :
    (ev t a b k).N b = hear (t.N b) a k ((t.N a).wS k) ((t.N a).wD k) := by
  have hme := h.ok.me a ha
  have hmb := h.ok.me b hb
  have h1 := (h.nice a ha).wy.wS k hk
  have h2 := (h.nice a ha).wy.lo k hk
  have h3 := (h.nice a ha).wy.hi k hk
  have hcost : (t.N b).cost a = t.C a b := by rw [h.cost b a hb ha]; exact h.ok.cost.sym b a hb ha
  show upN t.N ((b : Int)).toNat (Nd.hearC (t.N ((b : Int)).toNat) ((t.N a).me : Int) (k : Int) ((t.N a).wS k) ((t.N a).wD k)).1 b = _
  rw [Int.toNat_natCast, upN_same, hme]
  unfold Nd.hearC
  rw [if_neg (by simp only [hearBad]; omega), Int.toNat_natCast, if_neg (by rw [hcost]; omega), Int.toNat_natCast]
/-- What is told of others changes nothing of this one. -/
theorem hear_col (s : NS) (a k : Nat) (q dd : Int) {dst : Nat} (h : dst ≠ k) : (∀ f, (hear s a k q dd).hS f dst = s.hS f dst ∧ (hear s a k q dd).hD f dst = s.hD f dst) ∧
    (hear s a k q dd).wS dst = s.wS dst ∧ (hear s a k q dd).wD dst = s.wD dst ∧ (hear s a k q dd).wH dst = s.wH dst ∧ (hear s a k q dd).bS dst = s.bS dst ∧ (hear s a k q dd).bD dst = s.bD dst := by
  unfold hear
  have h1 := pick_heard { s with hS := up2 s.hS a k q, hD := up2 s.hD a k dd } k
  refine ⟨fun f => ?_, ?_⟩
  · rw [h1.1, h1.2.1]
    simp [up2, h]
  · unfold Nd.pick
    split
    · exact ⟨rfl, rfl, rfl, rfl, rfl⟩
    · simp only [lay]
      refine ⟨up_other _ _ _ _ h, up_other _ _ _ _ h, up_other _ _ _ _ h, ?_, ?_⟩
      · split
        · exact up_other _ _ _ _ h
        · rfl
      · split
        · exact up_other _ _ _ _ h
        · rfl
/-- What a choice is. -/
theorem pick_cases {s : NS} {k : Nat} (hm : k ≠ s.me) :
    ((pick s k).wS k = s.bS k ∧ (pick s k).wD k = 200 ∧ (pick s k).wH k = -1 ∧ (pick s k).bS k = s.bS k ∧ (pick s k).bD k = s.bD k ∧ ∀ j, j < 6 → may s j k = false) ∨
    ∃ f, f < 6 ∧ may s f k = true ∧ (pick s k).wS k = s.hS f k ∧ (pick s k).wD k = s.hD f k + s.cost f ∧ (pick s k).wH k = f ∧ (((pick s k).bS k = s.hS f k ∧ (pick s k).bD k = s.hD f k + s.cost f) ∨ ((pick s k).bS k = s.bS k ∧ (pick s k).bD k = s.bD k)) ∧
      ∀ j, j < 6 → may s j k = true → betB (s.hS j k) (s.hD j k + s.cost j) (s.hS f k) (s.hD f k + s.cost f) = false := by
  unfold Nd.pick
  rw [if_neg hm]
  rcases choose_spec s k 6 with ⟨h1, h2⟩ | ⟨f, hf, h1⟩
  · rw [h1]
    refine .inl ⟨?_, ?_, ?_, ?_, ?_, fun j hj => h2 j hj⟩ <;> simp [lay, Nd.none]
  · rw [h1]
    refine .inr ⟨f, hf.lt, hf.may, ?_, ?_, ?_, ?_, fun j hj hm => hf.best j (by omega) hj hm⟩
    · simp [lay, key]
    · simp [lay, key]
    · simp [lay, key]
    · by_cases hb : (key s k f).hop ≠ -1 ∧ betB (key s k f).seq (key s k f).dist (s.bS k) (s.bD k) = true
      · exact .inl ⟨by simp only [lay, if_pos hb, up_same]; rfl, by simp only [lay, if_pos hb, up_same]; rfl⟩
      · exact .inr ⟨by simp only [lay, if_neg hb], by simp only [lay, if_neg hb]⟩
end Go.Proofs.YteedndapbfihaaaGreat.Nt
/- It settles: those that can be reached. -/
namespace Go.Proofs.YteedndapbfihaaaGreat.Nt
open Nd

/-- No fresh way is too short. -/
structure Lo (t : NT) (d : Nat → Int) (dst : Nat) (q : Int) : Prop where
  heard : ∀ b f, b < 6 → f < 6 → (t.N b).hS f dst = q → d f ≤ (t.N b).hD f dst
  way : ∀ b, b < 6 → (t.N b).wS dst = q → d b ≤ (t.N b).wD dst
  best : ∀ b, b < 6 → (t.N b).bS dst = q → d b ≤ (t.N b).bD dst
structure Right (t : NT) (d : Nat → Int) (dst : Nat) (q : Int) (b f : Nat) : Prop where
  hS : (t.N b).hS f dst = q
  hD : (t.N b).hD f dst = d f
  wS : (t.N b).wS dst = q
  wD : (t.N b).wD dst = d b
  wH : (t.N b).wH dst ≠ -1
structure Base (C : Nat → Nat → Int) (dst : Nat) (q : Int) (d : Nat → Int) (n : Nat) (t : NT) : Prop where
  str : Str t n
  c : t.C = C
  age : age t dst = q
  lo : Lo t d dst q
structure InvA (C : Nat → Nat → Int) (dst : Nat) (q : Int) (d : Nat → Int) (n k : Nat) (t : NT) : Prop where
  base : Base C dst q d n t
  right : ∀ b f, b < 6 → f < 6 → b ≠ dst → d b < 200 → Lk.rank d b ≤ k → 0 < C f b → d b = d f + C f b → Right t d dst q b f
section
variable {C : Nat → Nat → Int} {dst : Nat} {q : Int} {d : Nat → Int} {n k : Nat} {t : NT} (hd : dst < 6) (hs : Lk.Sol C dst d)
theorem Base.ok (h : Base C dst q d n t) : Lk.CostOK C := by have := h.str.ok.cost; rw [h.c] at this; exact this
include hs in
theorem d_self (hd : dst < 6) : d dst = 0 := hs.src dst hd rfl
include hd hs in
/-- The way of one that is right already. -/
theorem InvA.way (h : InvA C dst q d n k t) {a : Nat} (ha : a < 6) (hda : d a < 200) (hr : Lk.rank d a ≤ k) : (t.N a).wS dst = q ∧ (t.N a).wD dst = d a ∧ (t.N a).wH dst ≠ -1 := by
  by_cases e : a = dst
  · subst e
    have h1 := (h.base.str.ok.run a ha).own
    have h2 := h1.d
    have h3 := h1.h
    rw [h.base.str.ok.me a ha] at h2 h3
    exact ⟨h.base.age, by rw [h2, d_self hs ha], by rw [h3]; omega⟩
  · rcases hs.pred a ha hda with h0 | ⟨f, hf, hc, hsum⟩
    · exact absurd (by omega) e
    · have := h.right a f ha hf e hda hr hc hsum
      exact ⟨this.wS, this.wD, this.wH⟩
/-- A choice among which the right one is, is right. -/
theorem pick_right {s : NS} (hm : dst ≠ s.me) {b f0 : Nat} (hf0 : f0 < 6) (hcost : ∀ j, j < 6 → s.cost j = C j b) (hb : b < 6)
    (hcap : ∀ j, j < 6 → s.hS j dst ≤ q) (hbs : s.bS dst ≤ q) (hlo : ∀ j, j < 6 → s.hS j dst = q → d j ≤ s.hD j dst) (hbest : s.bS dst = q → d b ≤ s.bD dst)
    (hs : Lk.Sol C dst d) (hdb : d b < 200) (hc : 0 < C f0 b) (hsum : d b = d f0 + C f0 b) (h1 : s.hS f0 dst = q) (h2 : s.hD f0 dst = d f0) :
    (pick s dst).wS dst = q ∧ (pick s dst).wD dst = d b ∧ (pick s dst).wH dst ≠ -1 := by
  have hmay : may s f0 dst = true := by
    simp only [may, Bool.and_eq_true, decide_eq_true_eq]
    rw [hcost f0 hf0, h1, h2]
    refine ⟨⟨hc, by omega⟩, ?_⟩
    rw [betB_iff]
    by_cases e : s.bS dst = q
    · have := hbest e; right; exact ⟨e.symm, by omega⟩
    · left; omega
  rcases pick_cases hm with ⟨_, _, _, _, _, hno⟩ | ⟨f, hf, hmf, e1, e2, e3, _, hbst⟩
  · rw [hno f0 hf0] at hmay; cases hmay
  · have k1 := hbst f0 hf0 hmay
    rw [betB_no, hcost f0 hf0, hcost f hf, h1, h2] at k1
    have k2 := hcap f hf
    have hfq : s.hS f dst = q := by omega
    have k3 := hlo f hf hfq
    simp only [may, Bool.and_eq_true, decide_eq_true_eq] at hmf
    rw [hcost f hf] at hmf
    have k4 := hs.step f b hf hb hmf.1.1
    rw [e1, e2, e3, hcost f hf]
    exact ⟨hfq, by omega, by omega⟩
/-- One hears one news. -/
structure Hr (t t' : NT) (a b j : Nat) (qq dd : Int) (n : Nat) : Prop where
  at_ : t'.N b = hear (t.N b) a j qq dd
  other : ∀ c, c ≠ b → t'.N c = t.N c
  c : t'.C = t.C
  str : Str t' n
theorem Base.hrEv (h : Base C dst q d n t) {a b j : Nat} (ha : a < 6) (hb : b < 6) (hj : j < 6) (hcab : 0 < C a b) (hne : a ≠ b) : Hr t (ev t a b j) a b j ((t.N a).wS j) ((t.N a).wD j) n :=
  ⟨ev_at h.str ha hb hj hne (by rw [h.c]; exact hcab), fun _ hc => ev_other _ _ _ _ hc, rfl, h.str.evT ha hb hj hne⟩
theorem Base.hr (hs : Lk.Sol C dst d) (h : Base C dst q d n t) {t' : NT} {n' a b j : Nat} {qq dd : Int} (hx : Hr t t' a b j qq dd n') (hb : b < 6) (hj : j < 6) (hcond : j = dst → qq = q → d a ≤ dd) : Base C dst q d n' t' := by
  have hstr := hx.str
  have hat := hx.at_
  have hmb := h.str.ok.me b hb
  have hcost : ∀ f, f < 6 → (t.N b).cost f = C f b := fun f hf => by rw [h.str.cost b f hb hf, h.c]; exact h.ok.sym b f hb hf
  have hage : Nt.age t' dst = q := by
    rw [← h.age]
    unfold Nt.age
    by_cases e : dst = b
    · subst e
      rw [hat]
      have := hear_wSme (t.N dst) a j qq dd
      rwa [hmb] at this
    · rw [hx.other _ e]
  refine ⟨hstr, hx.c.trans h.c, hage, ?_⟩
  by_cases e : dst = j
  · subst e
    -- column of its own
    have hheard : ∀ f, f < 6 → (t'.N b).hS f dst = q → d f ≤ (t'.N b).hD f dst := by
      intro f hf
      rw [hat]
      unfold hear
      have h1 := pick_heard { t.N b with hS := up2 (t.N b).hS a dst qq, hD := up2 (t.N b).hD a dst dd } dst
      rw [h1.1, h1.2.1]
      simp only [up2]
      by_cases e : f = a
      · subst e; rw [if_pos ⟨rfl, trivial⟩, if_pos ⟨rfl, trivial⟩]; exact hcond rfl
      · rw [if_neg (fun h => e h.1), if_neg (fun h => e h.1)]; exact h.lo.heard b f hb hf
    by_cases hbd : b = dst
    · have hp : ∀ s : NS, s.me = dst → pick s dst = s := fun s hs => by unfold Nd.pick; rw [if_pos hs.symm]
      have hN : t'.N b = { t.N b with hS := up2 (t.N b).hS a dst qq, hD := up2 (t.N b).hD a dst dd } := by
        rw [hat]; unfold hear; exact hp _ (by show (t.N b).me = dst; rw [hmb]; exact hbd)
      refine ⟨fun c f hc hf => ?_, fun c hc => ?_, fun c hc => ?_⟩
      · by_cases e : c = b
        · subst e; exact hheard f hf
        · rw [hx.other _ e]; exact h.lo.heard c f hc hf
      · by_cases e : c = b
        · subst e; rw [hN]; exact h.lo.way c hc
        · rw [hx.other _ e]; exact h.lo.way c hc
      · by_cases e : c = b
        · subst e; rw [hN]; exact h.lo.best c hc
        · rw [hx.other _ e]; exact h.lo.best c hc
    · have hm : dst ≠ ({ t.N b with hS := up2 (t.N b).hS a dst qq, hD := up2 (t.N b).hD a dst dd } : NS).me := by
        show dst ≠ (t.N b).me
        rw [hmb]; exact fun e => hbd e.symm
      have hxx : ∀ f, f < 6 → up2 (t.N b).hS a dst qq f dst = q → d f ≤ up2 (t.N b).hD a dst dd f dst := by
        intro f hf
        simp only [up2]
        by_cases e : f = a
        · subst e; rw [if_pos ⟨rfl, trivial⟩, if_pos ⟨rfl, trivial⟩]; exact hcond rfl
        · rw [if_neg (fun h => e h.1), if_neg (fun h => e h.1)]; exact h.lo.heard b f hb hf
      have hwb : ((t'.N b).wS dst = q → d b ≤ (t'.N b).wD dst) ∧ ((t'.N b).bS dst = q → d b ≤ (t'.N b).bD dst) := by
        rw [hat]
        unfold hear
        have hbb := h.lo.best b hb
        have hhi := hs.hi b hb
        rcases pick_cases hm with ⟨e1, e2, _, e4, e5, _⟩ | ⟨f, hf, hmf, e1, e2, _, e4, _⟩
        · rw [e1, e2, e4, e5]
          exact ⟨fun _ => hhi, hbb⟩
        · simp only [may, Bool.and_eq_true, decide_eq_true_eq] at hmf
          have hcf : 0 < C f b := by rw [← hcost f hf]; exact hmf.1.1
          have hst := hs.step f b hf hb hcf
          have hval : up2 (t.N b).hS a dst qq f dst = q → d b ≤ up2 (t.N b).hD a dst dd f dst + (t.N b).cost f := fun e => by
            have := hxx f hf e
            rw [hcost f hf]; omega
          rw [e1, e2]
          refine ⟨hval, ?_⟩
          rcases e4 with ⟨e4, e5⟩ | ⟨e4, e5⟩
          · rw [e4, e5]; exact hval
          · rw [e4, e5]; exact hbb
      refine ⟨fun c f hc hf => ?_, fun c hc => ?_, fun c hc => ?_⟩
      · by_cases e : c = b
        · subst e; exact hheard f hf
        · rw [hx.other _ e]; exact h.lo.heard c f hc hf
      · by_cases e : c = b
        · subst e; exact hwb.1
        · rw [hx.other _ e]; exact h.lo.way c hc
      · by_cases e : c = b
        · subst e; exact hwb.2
        · rw [hx.other _ e]; exact h.lo.best c hc
  · have hcol := hear_col (t.N b) a j qq dd e
    refine ⟨fun c f hc hf => ?_, fun c hc => ?_, fun c hc => ?_⟩
    · by_cases e : c = b
      · subst e; rw [hat, (hcol.1 f).1, (hcol.1 f).2]; exact h.lo.heard c f hc hf
      · rw [hx.other _ e]; exact h.lo.heard c f hc hf
    · by_cases e : c = b
      · subst e; rw [hat, hcol.2.1, hcol.2.2.1]; exact h.lo.way c hc
      · rw [hx.other _ e]; exact h.lo.way c hc
    · by_cases e : c = b
      · subst e; rw [hat, hcol.2.2.2.2.1, hcol.2.2.2.2.2]; exact h.lo.best c hc
      · rw [hx.other _ e]; exact h.lo.best c hc
/-- Behind one news: right stays right; what the right one says makes right. -/
theorem Base.hrRight (hs : Lk.Sol C dst d) (h : Base C dst q d n t) {t' : NT} {n' a b j c f : Nat} {qq dd : Int} (hx : Hr t t' a b j qq dd n') (hj : j < 6) (hcap : j = dst → qq ≤ q) (hcond : j = dst → qq = q → d a ≤ dd) (hc : c < 6) (hf : f < 6) (hcd : c ≠ dst)
    (hdc : d c < 200) (hcf : 0 < C f c) (hsum : d c = d f + C f c) (hold : Right t d dst q c f ∨ (c = b ∧ f = a ∧ j = dst))
    (hway : c = b → f = a → j = dst → qq = q ∧ dd = d a) : Right t' d dst q c f := by
  have hat := hx.at_
  by_cases e : c = b
  · subst e
    by_cases ej : j = dst
    · subst ej
      have hmb := h.str.ok.me c hc
      have hheard : up2 (t.N c).hS a j qq f j = q ∧ up2 (t.N c).hD a j dd f j = d f := by
        simp only [up2]
        by_cases e : f = a
        · subst e
          rw [if_pos ⟨rfl, trivial⟩, if_pos ⟨rfl, trivial⟩]
          exact hway rfl rfl rfl
        · rw [if_neg (fun h => e h.1), if_neg (fun h => e h.1)]
          rcases hold with hold | ⟨_, e', _⟩
          · exact ⟨hold.hS, hold.hD⟩
          · exact absurd e' e
      have hcost : ∀ g, g < 6 → (t.N c).cost g = C g c := fun g hg => by rw [h.str.cost c g hc hg, h.c]; exact h.ok.sym c g hc hg
      have hxx : ∀ g, g < 6 → up2 (t.N c).hS a j qq g j ≤ q ∧ (up2 (t.N c).hS a j qq g j = q → d g ≤ up2 (t.N c).hD a j dd g j) := by
        intro g hg
        simp only [up2]
        by_cases e : g = a
        · subst e; rw [if_pos ⟨rfl, trivial⟩, if_pos ⟨rfl, trivial⟩]
          exact ⟨hcap rfl, hcond rfl⟩
        · rw [if_neg (fun h => e h.1), if_neg (fun h => e h.1)]
          have := (h.str.cap c hc j hj).2.2 g hg
          rw [h.age] at this
          exact ⟨this, h.lo.heard c g hc hg⟩
      have hbs := (h.str.cap c hc j hj).2.1
      rw [h.age] at hbs
      have hp := pick_right (q := q) (d := d) (C := C) (dst := j) (s := { t.N c with hS := up2 (t.N c).hS a j qq, hD := up2 (t.N c).hD a j dd }) (b := c) (f0 := f)
        (by show j ≠ (t.N c).me; rw [hmb]; exact fun e => hcd e.symm) hf hcost hc (fun g hg => (hxx g hg).1) hbs (fun g hg => (hxx g hg).2) (h.lo.best c hc) hs hdc hcf hsum hheard.1 hheard.2
      have h1 := pick_heard { t.N c with hS := up2 (t.N c).hS a j qq, hD := up2 (t.N c).hD a j dd } j
      refine ⟨?_, ?_, ?_, ?_, ?_⟩
      · rw [hat]; unfold hear; rw [h1.1]; exact hheard.1
      · rw [hat]; unfold hear; rw [h1.2.1]; exact hheard.2
      · rw [hat]; unfold hear; exact hp.1
      · rw [hat]; unfold hear; exact hp.2.1
      · rw [hat]; unfold hear; exact hp.2.2
    · have hcol := hear_col (t.N c) a j qq dd (dst := dst) (fun e => ej e.symm)
      rcases hold with hold | ⟨_, _, e'⟩
      · refine ⟨?_, ?_, ?_, ?_, ?_⟩
        · rw [hat, (hcol.1 f).1]; exact hold.hS
        · rw [hat, (hcol.1 f).2]; exact hold.hD
        · rw [hat, hcol.2.1]; exact hold.wS
        · rw [hat, hcol.2.2.1]; exact hold.wD
        · rw [hat, hcol.2.2.2.1]; exact hold.wH
      · exact absurd e' ej
  · rcases hold with hold | ⟨e', _, _⟩
    · refine ⟨?_, ?_, ?_, ?_, ?_⟩ <;> rw [hx.other _ e]
      · exact hold.hS
      · exact hold.hD
      · exact hold.wS
      · exact hold.wD
      · exact hold.wH
    · exact absurd e' e
theorem Base.ev (hs : Lk.Sol C dst d) (h : Base C dst q d n t) {a b j : Nat} (ha : a < 6) (hb : b < 6) (hj : j < 6) (hcab : 0 < C a b) (hne : a ≠ b) : Base C dst q d n (ev t a b j) :=
  h.hr hs (h.hrEv ha hb hj hcab hne) hb hj (fun e => by subst e; exact h.lo.way a ha)
theorem Base.right (hs : Lk.Sol C dst d) (h : Base C dst q d n t) {a b j c f : Nat} (ha : a < 6) (hb : b < 6) (hj : j < 6) (hab : 0 < C a b) (hne : a ≠ b) (hc : c < 6) (hf : f < 6) (hcd : c ≠ dst)
    (hdc : d c < 200) (hcf : 0 < C f c) (hsum : d c = d f + C f c) (hold : Right t d dst q c f ∨ (c = b ∧ f = a ∧ j = dst))
    (hway : c = b → f = a → j = dst → (t.N a).wS dst = q ∧ (t.N a).wD dst = d a) : Right (Nt.ev t a b j) d dst q c f :=
  h.hrRight hs (h.hrEv ha hb hj hab hne) hj (fun e => by subst e; have := (h.str.cap a ha j hj).1; rw [h.age] at this; exact this) (fun e => by subst e; exact h.lo.way a ha) hc hf hcd hdc hcf hsum hold (fun e1 e2 e3 => by subst e3; exact hway e1 e2 rfl)
include hd in
theorem InvA.round (hs : Lk.Sol C dst d) (h : InvA C dst q d n k t) : InvA C dst q d n (k + 1) (roundK t 6) := by
  have hr : ∀ {a b : Nat}, a < 6 → d b < 200 → 0 < C a b → d b = d a + C a b → Lk.rank d b ≤ k + 1 → Lk.rank d a ≤ k ∧ d a < 200 := fun {a b} ha h1 h2 h3 h4 => by
    have := Lk.rank_lt (d := d) (a := a) (v := b) ha (by omega)
    exact ⟨by omega, by omega⟩
  obtain ⟨h1, h2⟩ := roundK_gen (Inv := InvA C dst q d n k) (Φ := fun t b f => b ≠ dst → d b < 200 → Lk.rank d b ≤ k + 1 → d b = d f + C f b → 0 < C f b → Right t d dst q b f) (C := C) (dst := dst) hd
    (fun t h => h.base.c) (fun a ha => h.base.ok.self a ha)
    (fun t a b j ha hb hj hc hne h => by
      refine ⟨h.base.ev hs ha hb hj hc hne, fun c f hc' hf hcd hdc hrk hcf hsum => ?_⟩
      refine h.base.right hs ha hb hj hc hne hc' hf hcd hdc hcf hsum (.inl (h.right c f hc' hf hcd hdc hrk hcf hsum)) (fun e1 e2 e3 => ?_)
      subst e1 e2
      obtain ⟨r1, r2⟩ := hr hf hdc hcf hsum (by omega)
      have := h.way hd hs hf r2 r1
      exact ⟨this.1, this.2.1⟩)
    (fun t a b ha hb hc hne h hbd hdb hrk hsum hcf => by
      obtain ⟨r1, r2⟩ := hr ha hdb hcf hsum hrk
      have := h.way hd hs ha r2 r1
      exact h.base.right hs ha hb hd hc hne hb ha hbd hdb hcf hsum (.inr ⟨rfl, rfl, rfl⟩) (fun _ _ _ => ⟨this.1, this.2.1⟩))
    (fun t a b j f c ha hb hj hc hne hc' hf h hold hcd hdc hrk hsum hcf => by
      refine h.base.right hs ha hb hj hc hne hc' hf hcd hdc hcf hsum (.inl (hold hcd hdc hrk hsum hcf)) (fun e1 e2 e3 => ?_)
      subst e1 e2
      obtain ⟨r1, r2⟩ := hr hf hdc hcf hsum hrk
      have := h.way hd hs hf r2 r1
      exact ⟨this.1, this.2.1⟩)
    h 6 (Nat.le_refl 6)
  exact ⟨h1.base, fun b f hb hf hbd hdb hrk hcf hsum => h2 f b hf hb hcf hbd hdb hrk hsum hcf⟩
include hd in
theorem InvA.rounds (hs : Lk.Sol C dst d) (h : InvA C dst q d n 0 t) : ∀ r, InvA C dst q d n r (Nt.rounds t r)
  | 0 => h
  | r + 1 => (InvA.rounds hs h r).round hd hs
end
end Go.Proofs.YteedndapbfihaaaGreat.Nt
