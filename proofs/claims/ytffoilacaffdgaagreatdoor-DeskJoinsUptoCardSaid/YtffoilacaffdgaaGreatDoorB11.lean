/- Walks: a desk's news. -/
import Derived.Test.YtffoilacaffdgaaGreatDoorB10
import Derived.Test.YtffoilacaffdgaaGreatDoorB4
import Derived.Test.YtffoilacaffdgaaGreatDoorB3
import Derived.Test.YtffoilacaffdgaaGreatDoorB8
import Derived.Lib.AtoiErrMem
import Derived.Test.YtffoilacaffdgaaGreatDoorB6
import Derived.Test.YtffoilacaffdgaaGreatDoorB1
import Derived.Test.YtffoilacaffdgaaGreatDoorB9
namespace Go.Proofs.YtffoilacaffdgaaGreatDoor
open Go.RowKit Go.Deep

theorem flat_succ {α : Type} (f : α → Dk.Bs) (l : List α) (k : Nat) (x : α) (h : l[k]? = some x) : (l.take (k + 1)).flatMap f = (l.take k).flatMap f ++ f x := by
  rw [List.take_add_one, h, List.flatMap_append]
  simp
theorem SlN.form {w : World} {base : Nat} {v : Value} {n : Nat} {xs : List Int} (h : SlN w base v n xs) : ∃ a c, v = .slice a n c ∧ ∀ p, a = some p → base ≤ p.block ∧ p.block < w.heap.size := by
  have hlt := fun g => World.ownsRow.lt h g
  rcases h.2 with ⟨rfl, h0⟩ | ⟨g, cap, cur, rfl, h2, _⟩
  · exact ⟨none, 0, by rw [h0], fun p hp => by cases hp⟩
  · exact ⟨some ⟨g, 0, none⟩, cap, rfl, fun p hp => by cases hp; exact ⟨h2, (hlt g rfl).2⟩⟩
def DNewsRel (d : Nat) (q : PIds) (s : Fb.PT) (t : Dk.Bs) (av : Option Addr) (cv : Nat) (S : Nat → Prop) (w : World) (i : Value) (wr : World) : Prop :=
  ∃ (k : Nat) (ad' bv' v' tv' : Value), k ≤ s.t.news.length ∧ i = .int .i64 k ∧ DkS S w d ad' bv' q v' tv' s (t ++ Dk.tellNews (s.t.news.take k)) wr ∧
    SlN wr 0 (.slice av s.t.news.length cv) s.t.news.length (nwI s.t.news) ∧ ∀ p, av = some p → p.block < wr.heap.size ∧ ¬ FtD d q v' tv' bv' p.block
set_option maxRecDepth 100000 in
set_option maxHeartbeats 8000000 in
theorem DNews_any (d : Nat) (ad bv : Value) (q : PIds) (v tv : Value) (s : Fb.PT) (t : Dk.Bs) (m : Nat) (w : World) (hs : Dk.DOk s m) (hl : t.length ≤ 9000000) (h : DkAt w d ad bv q v tv s t) :
    Calls Tryz.prog 48 #[.pointer (some ⟨d, 0, none⟩)] w (DkTo d q v tv bv (.tuple #[]) s (t ++ (Dk.tellNews s.t.news ++ Dk.say [Dk.tEnd])) w) := by
  obtain ⟨R, hR⟩ : ∃ R, R = DkTo d q v tv bv (.tuple #[]) s (t ++ (Dk.tellNews s.t.news ++ Dk.say [Dk.tEnd])) w := ⟨_, rfl⟩
  rw [← hR]
  have p2 := h.c2
  have p0 := h.post.p0
  have hn40 := hs.ok.str.ok.len
  have H := Lib.hid h; clear h; have HS := Lib.hid hs; clear hs; have HR := Lib.hid hR; clear hR
  go_enter Tryz.func48, Tryz.ntmps48
  go_wp2_with fail
  refine (News_any q.x v s.t _ (by omega) H.out.post.net).mono ?_
  rintro e w1 ⟨vn, rfl, hv, hf⟩
  have h1 := (DkS.start H.out).keep hf
  obtain ⟨av, cv, rfl, hav⟩ := hv.form
  have hap : ∀ p, av = some p → p.block < w1.heap.size ∧ ¬ FtD d q v tv bv p.block := fun p hp => ⟨(hav p hp).2, fun e => by have := H.out.lt e; have := (hav p hp).1; omega⟩
  have hv0 : SlN w1 0 (.slice av s.t.news.length cv) s.t.news.length (nwI s.t.news) := ⟨hv.1, by
    rcases hv.2 with e | ⟨g, cap, cur, e1, _, e2⟩
    · exact .inl e
    · exact .inr ⟨g, cap, cur, e1, Nat.zero_le _, e2⟩⟩
  clear hav hf hv p2 p0
  have H1 := Lib.hid h1; clear h1; have HAP := Lib.hid hap; clear hap; have HV0 := Lib.hid hv0; clear hv0
  go_wp2
  go_loopw [13] (fun i wr => DNewsRel d q s t av cv (FtD d q v tv bv) w i wr) (fun i _ => s.t.news.length - (intOf i).toNat)
  case atStart => exact ⟨0, ad, bv, v, tv, by omega, rfl, by have := H1.out; simpa [Dk.tellNews] using this, HV0.out, HAP.out⟩
  case round =>
    clear H1 HAP HV0
    obtain ⟨k, ad1, bv1, v1, tv1, hk, rfl, h1, hv, hap⟩ := hrel
    by_cases hkn : k < s.t.news.length
    · have hkb : decide ((k : Int) < (s.t.news.length : Int)) = true := by simp; omega
      obtain ⟨b0, rfl, c0, c1, c2, c3, c4⟩ := news_cells hv hkn
      have hb0 := hap _ rfl
      obtain ⟨x, hx⟩ : ∃ x, s.t.news[k]? = some x := ⟨s.t.news[k], List.getElem?_eq_getElem hkn⟩
      have hxg : nwGet s.t.news k = x := by simp [nwGet, hx]
      rw [hxg] at c0 c1 c2 c3 c4
      have hsm := Dk.nw_ok HS.out (List.mem_of_getElem? hx)
      have hlen := Dk.tellNews_len HS.out k
      have hlen2 := Dk.sayNw_len hsm
      have hsu : Dk.tellNews (s.t.news.take (k + 1)) = Dk.tellNews (s.t.news.take k) ++ Dk.sayNw x := flat_succ Dk.sayNw _ k x hx
      obtain ⟨xa, xg, xt, xq, xd⟩ := x
      have ha := sm64 hsm.a
      have hg := sm64 hsm.g
      have ht := sm64 hsm.t
      have hq := sm64 hsm.q
      have hd := sm64 hsm.d
      dsimp only at ha hg ht hq hd c0 c1 c2 c3 c4
      clear hsm hx hxg
      have H := Lib.hid h1; clear h1; have HV := Lib.hid hv; clear hv; have HAP := Lib.hid hap; clear hap; have HLEN := Lib.hid hlen; clear hlen; have HLEN2 := Lib.hid hlen2; clear hlen2; have HSU := Lib.hid hsu; clear hsu; have HA := Lib.hid ha; clear ha; have HG := Lib.hid hg; clear hg; have HT := Lib.hid ht; clear ht; have HQ := Lib.hid hq; clear hq; have HDD := Lib.hid hd; clear hd; have HB0 := Lib.hid hb0; clear hb0
      go_upto_region 3 with fail
      refine wp_name fun w2 hw2 => ?_
      have d0 : w2.cell? ⟨wr.heap.size, 0, none⟩ = some (.int .i64 xa) := by rw [hw2]; simp
      have d1 : w2.cell? ⟨wr.heap.size, 1, none⟩ = some (.int .i64 xg) := by rw [hw2]; simp
      have d2 : w2.cell? ⟨wr.heap.size, 2, none⟩ = some (.int .i64 xt) := by rw [hw2]; simp
      have d3 : w2.cell? ⟨wr.heap.size, 3, none⟩ = some (.int .i64 xq) := by rw [hw2]; simp
      have d4 : w2.cell? ⟨wr.heap.size, 4, none⟩ = some (.int .i64 xd) := by rw [hw2]; simp
      have hF : Fr NoB wr w2 := by rw [hw2]; (repeat (first | exact Fr.refl _ _ | refine Fr.alloc ?_ _ | refine Fr.setNew ?_ (by omega) _ _ | refine Fr.drewN ?_ _ | refine Fr.drew ?_))
      clear hw2 c0 c1 c2 c3 c4
      have h2 := H.out.keep hF
      have hz : ¬ FtD d q v1 tv1 bv1 wr.heap.size := fun e => by have := H.out.at_.lt e; omega
      have hv2 := own_keep HV.out hF (fun _ _ h => h)
      have hbz := Nat.lt_of_lt_of_le HB0.out.1 hF.size
      clear hF H HV
      generalize wr.heap.size = z at *
      have hst : ∀ W, Fr NoB w2 W → W.cell? ⟨z, 0, none⟩ = some (.int .i64 xa) ∧ W.cell? ⟨z, 1, none⟩ = some (.int .i64 xg) ∧ W.cell? ⟨z, 2, none⟩ = some (.int .i64 xt) ∧ W.cell? ⟨z, 3, none⟩ = some (.int .i64 xq) ∧ W.cell? ⟨z, 4, none⟩ = some (.int .i64 xd) := fun W hW => ⟨cell_fr' hW d0 (fun h => h), cell_fr' hW d1 (fun h => h), cell_fr' hW d2 (fun h => h), cell_fr' hW d3 (fun h => h), cell_fr' hW d4 (fun h => h)⟩
      clear d0 d1 d2 d3 d4
      have F1 := Lib.hid (Fr.refl NoB w2)
      have H := Lib.hid h2; clear h2; have HZ := Lib.hid hz; clear hz; have HST := Lib.hid hst; clear hst; have HV := Lib.hid hv2; clear hv2; have HBZ := Lib.hid hbz; clear hbz
      go_region_held3 (fun W => W.cell? ⟨z, 0, none⟩ = some (.int .i64 xa) ∧ W.cell? ⟨z, 1, none⟩ = some (.int .i64 xg) ∧ W.cell? ⟨z, 2, none⟩ = some (.int .i64 xt) ∧ W.cell? ⟨z, 3, none⟩ = some (.int .i64 xq) ∧ W.cell? ⟨z, 4, none⟩ = some (.int .i64 xd))
        (first | exact HST.out _ F1.out.drew | exact HST.out _ F2.out | exact HST.out _ F3.out | exact HST.out _ F4.out | exact HST.out _ F5.out | exact HST.out _ F6.out | exact HST.out _ (F6.out.alloc _) | exact ⟨g0, g1, g2, g3, g4⟩)
        (first | (go_at_call 46; refine (Num_any xa _ HA.out (H.out.keep F1.out.drew).at_.env).mono ?_; intro e w3 h3; obtain ⟨X1, rfl, hX1, hs1, hf⟩ := h3.r; have F2 := Lib.hid (F1.out.drew.trans hf); have HX1 := Lib.hid hX1; clear hf h3 hX1 hs1) | (go_at_call 46; refine (Num_any xg _ HG.out (H.out.keep F2.out).at_.env).mono ?_; intro e w4 h4; obtain ⟨X2, rfl, hX2, hs2, hf⟩ := h4.r; have F3 := Lib.hid (F2.out.trans hf); have HX2 := Lib.hid hX2; clear hf h4 hX2 hs2) | (go_at_call 46; refine (Num_any xt _ HT.out (H.out.keep F3.out).at_.env).mono ?_; intro e w5 h5; obtain ⟨X3, rfl, hX3, hs3, hf⟩ := h5.r; have F4 := Lib.hid (F3.out.trans hf); have HX3 := Lib.hid hX3; clear hf h5 hX3 hs3) | (go_at_call 46; refine (Num_any xq _ HQ.out (H.out.keep F4.out).at_.env).mono ?_; intro e w6 h6; obtain ⟨X4, rfl, hX4, hs4, hf⟩ := h6.r; have F5 := Lib.hid (F4.out.trans hf); have HX4 := Lib.hid hX4; clear hf h6 hX4 hs4) | (go_at_call 46; refine (Num_any xd _ HDD.out (H.out.keep F5.out).at_.env).mono ?_; intro e w7 h7; obtain ⟨X5, rfl, hX5, hs5, hf⟩ := h7.r; have F6 := Lib.hid (F5.out.trans hf); have HX5 := Lib.hid hX5; clear hf h7 hX5 hs5) | (go_at_call 30; refine (Say_new d _ _ q _ _ s _ (Dk.sayNw ⟨xa, xg, xt, xq, xd⟩) [⟨#[110, 101, 119, 115]⟩, X1, X2, X3, X4, X5] _ _ (by show Dk.say [Dk.wNews, X1.data.toList, X2.data.toList, X3.data.toList, X4.data.toList, X5.data.toList] = _; rw [HX1.out, HX2.out, HX3.out, HX4.out, HX5.out]; rfl) (by rw [List.length_append]; have := HLEN.out; have := HLEN2.out; omega) (by simp) (H.out.keep F6.out).at_).mono ?_; intro e w8 k8; obtain ⟨ad8, bv8, v8, tv8, rfl, h8⟩ := k8; have hst6 := HST.out _ F6.out; have g0 := cell_fr' h8.f hst6.1 HZ.out; have g1 := cell_fr' h8.f hst6.2.1 HZ.out; have g2 := cell_fr' h8.f hst6.2.2.1 HZ.out; have g3 := cell_fr' h8.f hst6.2.2.2.1 HZ.out; have g4 := cell_fr' h8.f hst6.2.2.2.2 HZ.out; clear hst6; have HV8 := Lib.hid (own_keep (own_keep HV.out F6.out (fun _ _ h => h)) h8.f (fun g hg => by cases hg; exact HB0.out.2)); have HN8 := Lib.hid (show b0 < w8.heap.size ∧ ¬ FtD d q v8 tv8 bv8 b0 from ⟨by have := HBZ.out; have := F6.out.size; have := h8.f.size; omega, fun e => by rcases h8.new _ e with e | e; exact HB0.out.2 e; have := HBZ.out; have := F6.out.size; omega⟩); have H8 := Lib.hid ((H.out.keep F6.out).go h8); clear h8))
      go_wp2
      go_roundw
      case rel => exact ⟨k + 1, ad8, bv8, v8, tv8, by omega, by go_num, by rw [HSU.out, ← List.append_assoc]; exact H8.out, HV8.out, fun p hp => by cases hp; exact HN8.out⟩
      case measure => simp [intOf]; omega
    · have e : s.t.news.take k = s.t.news := List.take_of_length_le (by omega)
      rw [e] at h1
      have hlen := Dk.tellNews_len HS.out k
      rw [e] at hlen
      have hkb : decide ((k : Int) < (s.t.news.length : Int)) = false := by simp; omega
      clear e hv hap
      have H := Lib.hid h1; clear h1; have HLEN := Lib.hid hlen; clear hlen
      go_wp2_with fail
      refine (Say_new d _ _ q _ _ s _ _ [⟨#[101, 110, 100]⟩] _ _ rfl (by rw [List.length_append]; have := HLEN.out; have : (Dk.say (bss [⟨#[101, 110, 100]⟩])).length = 4 := rfl; omega) (by simp) H.out.at_).mono ?_
      intro e w3 k3
      obtain ⟨ad3, bv3, v3, tv3, rfl, h3⟩ := DkTo.after H.out k3
      clear k3
      have H3 := Lib.hid h3; clear h3
      go_wp2
      go_end0
      rw [HR.out]
      exact ⟨ad3, bv3, v3, tv3, rfl, by rw [← List.append_assoc]; exact H3.out⟩
end Go.Proofs.YtffoilacaffdgaaGreatDoor
/- Walks: a desk's table. -/
namespace Go.Proofs.YtffoilacaffdgaaGreatDoor
open Go.RowKit Go.Deep

theorem Text_r (l b : Int) (w : World) (h : Env w) : Calls Tryz.prog 78 #[.agg #[.int .i64 l, .int .i64 b]] w (StrR (Tb.txt ⟨l, b⟩) w) := (Text_any l b w h.tab).mono fun _ _ h => h.r
set_option maxRecDepth 100000 in
set_option maxHeartbeats 4000000 in
theorem DTab_none (d : Nat) (ad bv : Value) (q : PIds) (v tv : Value) (s : Fb.PT) (t : Dk.Bs) (w : World) (hl : t.length ≤ 9000000) (h : DkAt w d ad bv q v tv s t) :
    Calls Tryz.prog 49 #[.pointer (some ⟨d, 0, none⟩), .pointer none] w (DkTo d q v tv bv (.tuple #[]) s (t ++ Dk.tellTab none) w) := by
  obtain ⟨R, hR⟩ : ∃ R, R = DkTo d q v tv bv (.tuple #[]) s (t ++ Dk.tellTab none) w := ⟨_, rfl⟩
  rw [← hR]
  have H := Lib.hid h; clear h; have HR := Lib.hid hR; clear hR
  go_enter Tryz.func49, Tryz.ntmps49
  go_wp2_with fail
  refine (Num_any 1 _ ⟨by omega, by omega⟩ H.out.env).mono ?_
  intro e w3 h3
  obtain ⟨X, rfl, hX, hXs, hf⟩ := h3.r
  have h4 := (DkS.start H.out).keep hf
  clear hf h3 hXs
  have hT2 : Dk.say (bss [⟨#[110, 111]⟩, X]) = Dk.tellTab none := by
    show Dk.say [Dk.tNo, X.data.toList] = Dk.say [Dk.tNo, Lib.itoa 1]
    rw [hX]
  have hTl : (Dk.tellTab none).length ≤ 45 := Dk.sayNo_len (Dk.sm_of (by decide) (by decide))
  have H4 := Lib.hid h4; clear h4; have HT2 := Lib.hid hT2; clear hT2; have HTL := Lib.hid hTl; clear hTl
  clear hX
  go_wp2_with fail
  refine (Say_new d _ _ q _ _ s t _ [⟨#[110, 111]⟩, X] _ _ HT2.out (by have := HTL.out; omega) (by simp) H4.out.at_).mono ?_
  intro e w5 k5
  obtain ⟨ad3, bv3, v3, tv3, rfl, h5⟩ := DkTo.after H4.out k5
  clear k5
  have H5 := Lib.hid h5; clear h5
  go_wp2
  go_end0
  rw [HR.out]
  exact ⟨ad3, bv3, v3, tv3, rfl, H5.out⟩
def DTabRel (d : Nat) (q : PIds) (s : Fb.PT) (t : Dk.Bs) (L : List Tb.Rt) (av : Option Addr) (S : Nat → Prop) (w : World) (i : Value) (wr : World) : Prop :=
  ∃ (k : Nat) (ad' bv' v' tv' : Value), k ≤ L.length ∧ i = .int .i64 k ∧ DkS S w d ad' bv' q v' tv' s (t ++ Dk.tellRts (L.take k)) wr ∧
    Rs wr av L ∧ ∀ p, av = some p → p.block < wr.heap.size ∧ ¬ FtD d q v' tv' bv' p.block
set_option maxRecDepth 100000 in
set_option maxHeartbeats 8000000 in
theorem DTab_some (d : Nat) (ad bv : Value) (q : PIds) (v tv : Value) (s : Fb.PT) (t : Dk.Bs) (tb : Nat) (v' : Value) (L : List Tb.Rt) (w : World) (hL : Dk.SmT L) (hl : t.length ≤ 9000000) (h : DkAt w d ad bv q v tv s t) (hT : TAt w tb v' L) :
    Calls Tryz.prog 49 #[.pointer (some ⟨d, 0, none⟩), .pointer (some ⟨tb, 0, none⟩)] w (DkTo d q v tv bv (.tuple #[]) s (t ++ Dk.tellTab (some L)) w) := by
  obtain ⟨R, hR⟩ : ∃ R, R = DkTo d q v tv bv (.tuple #[]) s (t ++ (Dk.tellRts L ++ Dk.say [Dk.tEnd])) w := ⟨_, rfl⟩
  show Calls Tryz.prog 49 _ w (DkTo d q v tv bv (.tuple #[]) s (t ++ (Dk.tellRts L ++ Dk.say [Dk.tEnd])) w)
  rw [← hR]
  have hl40 := hL.len
  have H := Lib.hid h; clear h; have HR := Lib.hid hR; clear hR; have HL := Lib.hid hL; clear hL; have HT := Lib.hid hT; clear hT
  go_enter Tryz.func49, Tryz.ntmps49
  go_wp2_with fail
  refine (ListT_any tb v' L _ (by omega) HT.out).mono ?_
  rintro e w1 ⟨lv, rfl, hv, hf⟩
  have h1 := (DkS.start H.out).keep hf
  have hlt := fun g => World.ownsRow.lt hv g
  obtain ⟨av, cv, rfl, hr, hnew, _⟩ := hv.shape
  have hap : ∀ p, av = some p → p.block < w1.heap.size ∧ ¬ FtD d q v tv bv p.block := fun p hp => by
    have hb : w.heap.size ≤ p.block ∧ p.block < w1.heap.size := hlt p.block (by rw [hp]; rfl)
    exact ⟨hb.2, fun e => by have := H.out.lt e; omega⟩
  clear hlt hf hv hnew HT
  have H1 := Lib.hid h1; clear h1; have HAP := Lib.hid hap; clear hap; have HV0 := Lib.hid hr; clear hr
  go_wp2
  go_loopw [15] (fun i wr => DTabRel d q s t L av (FtD d q v tv bv) w i wr) (fun i _ => L.length - (intOf i).toNat)
  case atStart => exact ⟨0, ad, bv, v, tv, by omega, rfl, by have := H1.out; simpa [Dk.tellRts] using this, HV0.out, HAP.out⟩
  case round =>
    clear H1 HAP HV0
    obtain ⟨k, ad1, bv1, v1, tv1, hk, rfl, h1, hv, hap⟩ := hrel
    by_cases hkn : k < L.length
    · have hkb : decide ((k : Int) < (L.length : Int)) = true := by simp; omega
      obtain ⟨b0, o0, rfl, c0, c1, c2⟩ := hv k hkn
      have hb0 := hap _ rfl
      have hx : L[k]? = some (Tb.nth L k) := by simp [Tb.nth, hkn]
      have hsm := HL.out.hop _ (List.mem_of_getElem? hx)
      have hlen := Dk.tellRts_len HL.out k
      have hlen2 := Dk.sayRt_len hsm
      have hsu : Dk.tellRts (L.take (k + 1)) = Dk.tellRts (L.take k) ++ Dk.sayRt (Tb.nth L k) := flat_succ Dk.sayRt _ k _ hx
      generalize Tb.nth L k = x at *
      obtain ⟨⟨l, b⟩, hop⟩ := x
      have hh := sm64 hsm
      dsimp only at hh c0 c1 c2
      clear hsm hx
      have H := Lib.hid h1; clear h1; have HV := Lib.hid hv; clear hv; have HAP := Lib.hid hap; clear hap; have HLEN := Lib.hid hlen; clear hlen; have HLEN2 := Lib.hid hlen2; clear hlen2; have HSU := Lib.hid hsu; clear hsu; have HHH := Lib.hid hh; clear hh; have HB0 := Lib.hid hb0; clear hb0
      go_upto_region 5 with fail
      refine wp_name fun w2 hw2 => ?_
      have d0 : w2.cell? ⟨wr.heap.size, 0, none⟩ = some (.int .i64 l) := by rw [hw2]; simp
      have d1 : w2.cell? ⟨wr.heap.size, 1, none⟩ = some (.int .i64 b) := by rw [hw2]; simp
      have d2 : w2.cell? ⟨wr.heap.size, 2, none⟩ = some (.int .i64 hop) := by rw [hw2]; simp
      have hF : Fr NoB wr w2 := by rw [hw2]; (repeat (first | exact Fr.refl _ _ | refine Fr.alloc ?_ _ | refine Fr.setNew ?_ (by omega) _ _ | refine Fr.drewN ?_ _ | refine Fr.drew ?_))
      clear hw2 c0 c1 c2
      have h2 := H.out.keep hF
      have hz : ¬ FtD d q v1 tv1 bv1 wr.heap.size := fun e => by have := H.out.at_.lt e; omega
      have hv2 := HV.out.keep hF (fun _ _ h => h)
      have hbz := Nat.lt_of_lt_of_le HB0.out.1 hF.size
      clear hF H HV
      generalize wr.heap.size = z at *
      have hst : ∀ W, Fr NoB w2 W → W.cell? ⟨z, 0, none⟩ = some (.int .i64 l) ∧ W.cell? ⟨z, 1, none⟩ = some (.int .i64 b) ∧ W.cell? ⟨z, 2, none⟩ = some (.int .i64 hop) := fun W hW => ⟨cell_fr' hW d0 (fun h => h), cell_fr' hW d1 (fun h => h), cell_fr' hW d2 (fun h => h)⟩
      clear d0 d1 d2
      have F1 := Lib.hid (Fr.refl NoB w2)
      have H := Lib.hid h2; clear h2; have HZ := Lib.hid hz; clear hz; have HST := Lib.hid hst; clear hst; have HV := Lib.hid hv2; clear hv2; have HBZ := Lib.hid hbz; clear hbz
      go_region_held3 (fun W => W.cell? ⟨z, 0, none⟩ = some (.int .i64 l) ∧ W.cell? ⟨z, 1, none⟩ = some (.int .i64 b) ∧ W.cell? ⟨z, 2, none⟩ = some (.int .i64 hop))
        (first | exact HST.out _ F1.out.drew | exact HST.out _ F2.out | exact HST.out _ F3.out | exact HST.out _ (F3.out.alloc _) | exact ⟨g0, g1, g2⟩)
        (first | (go_at_call 78; refine (Text_r l b _ (H.out.keep F1.out.drew).at_.env).mono ?_; rintro e w3 ⟨X1, rfl, hX1, hs1, hf⟩; have F2 := Lib.hid (F1.out.drew.trans hf); have HX1 := Lib.hid hX1; clear hf hX1 hs1) | (go_at_call 46; refine (Num_any hop _ HHH.out (H.out.keep F2.out).at_.env).mono ?_; intro e w4 h4; obtain ⟨X2, rfl, hX2, hs2, hf⟩ := h4.r; have F3 := Lib.hid (F2.out.trans hf); have HX2 := Lib.hid hX2; clear hf h4 hX2 hs2) | (go_at_call 30; refine (Say_new d _ _ q _ _ s _ (Dk.sayRt ⟨⟨l, b⟩, hop⟩) [⟨#[114, 111, 117, 116, 101]⟩, X1, X2] _ _ (by show Dk.say [Dk.tRoute, X1.data.toList, X2.data.toList] = _; rw [HX1.out, HX2.out]; rfl) (by rw [List.length_append]; have := HLEN.out; have := HLEN2.out; omega) (by simp) (H.out.keep F3.out).at_).mono ?_; intro e w8 k8; obtain ⟨ad8, bv8, v8, tv8, rfl, h8⟩ := k8; have hst6 := HST.out _ F3.out; have g0 := cell_fr' h8.f hst6.1 HZ.out; have g1 := cell_fr' h8.f hst6.2.1 HZ.out; have g2 := cell_fr' h8.f hst6.2.2 HZ.out; clear hst6; have HV8 := Lib.hid ((HV.out.keep F3.out (fun _ _ h => h)).keep h8.f (fun p hp => by cases hp; exact HB0.out.2)); have HN8 := Lib.hid (show b0 < w8.heap.size ∧ ¬ FtD d q v8 tv8 bv8 b0 from ⟨by have := HBZ.out; have := F3.out.size; have := h8.f.size; omega, fun e => by rcases h8.new _ e with e | e; exact HB0.out.2 e; have := HBZ.out; have := F3.out.size; omega⟩); have H8 := Lib.hid ((H.out.keep F3.out).go h8); clear h8))
      go_wp2
      go_roundw
      case rel => exact ⟨k + 1, ad8, bv8, v8, tv8, by omega, by go_num, by rw [HSU.out, ← List.append_assoc]; exact H8.out, HV8.out, fun p hp => by cases hp; exact HN8.out⟩
      case measure => simp [intOf]; omega
    · have e : L.take k = L := List.take_of_length_le (by omega)
      rw [e] at h1
      have hlen := Dk.tellRts_len HL.out k
      rw [e] at hlen
      have hkb : decide ((k : Int) < (L.length : Int)) = false := by simp; omega
      clear e hv hap
      have H := Lib.hid h1; clear h1; have HLEN := Lib.hid hlen; clear hlen
      go_wp2_with fail
      refine (Say_new d _ _ q _ _ s _ _ [⟨#[101, 110, 100]⟩] _ _ rfl (by rw [List.length_append]; have := HLEN.out; have : (Dk.say (bss [⟨#[101, 110, 100]⟩])).length = 4 := rfl; omega) (by simp) H.out.at_).mono ?_
      intro e w3 k3
      obtain ⟨ad3, bv3, v3, tv3, rfl, h3⟩ := DkTo.after H.out k3
      clear k3
      have H3 := Lib.hid h3; clear h3
      go_wp2
      go_end0
      rw [HR.out]
      exact ⟨ad3, bv3, v3, tv3, rfl, by rw [← List.append_assoc]; exact H3.out⟩
end Go.Proofs.YtffoilacaffdgaaGreatDoor
/- Walks: a desk's letter. -/
namespace Go.Proofs.YtffoilacaffdgaaGreatDoor
open Go.RowKit Go.Deep

theorem tripS_succ (e c : Int) (l : List Int) (k : Nat) (h : k < l.length) : Dk.tripS e c (l.take (k + 1)) = Dk.tripS e c (l.take k) ++ 32 :: Lib.itoa (l.getD k 0) := by
  unfold Dk.tripS
  have hx : l[k]? = some (l.getD k 0) := by simp [h]
  rw [flat_succ (fun n => 32 :: Lib.itoa n) l k _ hx]
  simp [List.append_assoc]
def LetRel (d : Nat) (q : PIds) (v tv ad bv : Value) (s : Fb.PT) (t : Dk.Bs) (e0 c0 : Int) (l : List Int) (nv : Value) (S : Nat → Prop) (w : World) (sv i : Value) (wr : World) : Prop :=
  ∃ (k : Nat) (X : ByteArray), k ≤ l.length ∧ i = .int .i64 k ∧ sv = .string X ∧ X.data.toList = Dk.tripS e0 c0 (l.take k) ∧ X.size ≤ 202 ∧ DkS S w d ad bv q v tv s t wr ∧ Sl wr 0 nv l
set_option maxRecDepth 100000 in
set_option maxHeartbeats 8000000 in
theorem Letter_any (d : Nat) (ad bv : Value) (q : PIds) (v tv : Value) (s : Fb.PT) (t : Dk.Bs) (a b : Int) (m : Nat) (w : World) (hs : Dk.DOk s m) (hl : t.length ≤ 9000000) (h : DkAt w d ad bv q v tv s t) :
    Calls Tryz.prog 52 #[.pointer (some ⟨d, 0, none⟩), .int .i64 a, .int .i64 b] w (DkTo d q v tv bv (.tuple #[]) s (t ++ Dk.say [Dk.tripS (Dk.trip s a b).2.2 (Dk.trip s a b).2.1 (Dk.trip s a b).1]) w) := by
  have hsm := Dk.trip_sm hs a b
  have hgo := fun (kb : Nat) T V W (hk : WkAt W kb q.p T V (tabOf true s)) (hW : Fr NoB w W) => WGo_any kb T V (tabOf true s) q v tv s (Wk.hopA s.t (Tb.look s.o b)) a b W hk (h.keep0 hW).post hs.ok.str.ok.cost (fun _ hk => ⟨(tab_ok hs.ok hk true).2, tab_look hs.ok hk true b⟩)
  have e0 : Wk.tripT (Wk.hopA s.t (Tb.look s.o b)) s.t.C a = Dk.trip s a b := rfl
  rw [e0] at hgo
  clear e0
  generalize Dk.trip s a b = r at *
  obtain ⟨l, co, en⟩ := r
  unfold GoPost at hgo
  dsimp only at hgo ⊢
  obtain ⟨R, hR⟩ : ∃ R, R = DkTo d q v tv bv (.tuple #[]) s (t ++ Dk.say [Dk.tripS en co l]) w := ⟨_, rfl⟩
  rw [← hR]
  have p2 := h.c2
  have hln : l.length ≤ 7 := hsm.len
  have hce := sm64 hsm.e
  have hcc := sm64 hsm.c
  dsimp only at hce hcc
  have hnw := NewW true q v tv s m w hs.ok h.post
  have H := Lib.hid h; clear h; have HR := Lib.hid hR; clear hR; have HGO := Lib.hid hgo; clear hgo; have HSM := Lib.hid hsm; clear hsm; have HE := Lib.hid hce; clear hce; have HC := Lib.hid hcc; clear hcc; have HNW := Lib.hid hnw; clear hnw
  clear hs
  go_enter Tryz.func52, Tryz.ntmps52
  go_wp2_with fail
  refine HNW.out.mono ?_
  rintro e w1 ⟨kb, T, V, rfl, hk, hf, _⟩
  have hgo := HGO.out kb T V w1 hk hf
  clear hk HGO HNW p2
  have HGO := Lib.hid hgo; clear hgo; have HF := Lib.hid hf; clear hf
  go_wp2_with fail
  refine HGO.out.mono ?_
  rintro e w2 ⟨nv, rfl, hnv, hf⟩
  have hF2 := HF.out.trans hf
  have hsl : Sl w2 0 nv l := ⟨hnv.1, by
    rcases hnv.2 with e | ⟨g, cap, cur, e1, _, e2⟩
    · exact .inl e
    · exact .inr ⟨g, cap, cur, e1, Nat.zero_le _, e2⟩⟩
  obtain ⟨al, cn, rfl, _⟩ := ownsRow_rd hsl
  clear hnv hf HF HGO
  have HF2 := Lib.hid hF2; clear hF2; have HSL := Lib.hid hsl; clear hsl
  go_upto_region 1 with fail
  refine wp_name fun w3 hw3 => ?_
  have d0 : w3.cell? ⟨w2.heap.size, 0, none⟩ = some (.slice al l.length cn) := by rw [hw3]; simp
  have d1 : w3.cell? ⟨w2.heap.size, 1, none⟩ = some (.int .i64 co) := by rw [hw3]; simp
  have d2 : w3.cell? ⟨w2.heap.size, 2, none⟩ = some (.int .i64 en) := by rw [hw3]; simp
  have hF : Fr NoB w2 w3 := by rw [hw3]; (repeat (first | exact Fr.refl _ _ | refine Fr.alloc ?_ _ | refine Fr.setNew ?_ (by omega) _ _ | refine Fr.drewN ?_ _ | refine Fr.drew ?_))
  clear hw3
  have h3 := (DkS.start H.out).keep (HF2.out.trans hF)
  have hs3 : Sl w3 0 (.slice al l.length cn) l := own_keep HSL.out hF (fun _ _ h => h)
  clear hF HF2 HSL
  generalize w2.heap.size = z at *
  have hst : ∀ W, Fr NoB w3 W → W.cell? ⟨z, 0, none⟩ = some (.slice al l.length cn) ∧ W.cell? ⟨z, 1, none⟩ = some (.int .i64 co) ∧ W.cell? ⟨z, 2, none⟩ = some (.int .i64 en) := fun W hW => ⟨cell_fr' hW d0 (fun h => h), cell_fr' hW d1 (fun h => h), cell_fr' hW d2 (fun h => h)⟩
  clear d0 d1 d2
  have F1 := Lib.hid (Fr.refl NoB w3)
  have H3 := Lib.hid h3; clear h3; have HS3 := Lib.hid hs3; clear hs3; have HST := Lib.hid hst; clear hst
  go_region_held3 (fun W => W.cell? ⟨z, 0, none⟩ = some (.slice al l.length cn) ∧ W.cell? ⟨z, 1, none⟩ = some (.int .i64 co) ∧ W.cell? ⟨z, 2, none⟩ = some (.int .i64 en))
    (first | exact HST.out _ F1.out.drew | exact HST.out _ F2.out | exact HST.out _ F3.out)
    (first | (go_at_call 46; refine (Num_any en _ HE.out (H3.out.keep F1.out.drew).at_.env).mono ?_; intro e w4 h4; obtain ⟨X1, rfl, hX1, hs1, hf⟩ := h4.r; have F2 := Lib.hid (F1.out.drew.trans hf); have hq1 : X1.size ≤ 21 := (by rw [hs1]; exact Dk.itoa_len HSM.out.e); have hk1 : ¬ (9223372036854775807 < 5 + X1.size) := (by omega); have hk2 : ¬ (9223372036854775807 < 5 + X1.size + 1) := (by omega); have HX1 := Lib.hid hX1; clear hf h4 hX1 hs1) | (go_at_call 46; refine (Num_any co _ HC.out (H3.out.keep F2.out).at_.env).mono ?_; intro e w5 h5; obtain ⟨X2, rfl, hX2, hs2, hf⟩ := h5.r; have F3 := Lib.hid (F2.out.trans hf); have hq2 : X2.size ≤ 21 := (by rw [hs2]; exact Dk.itoa_len HSM.out.c); have hk3 : ¬ (9223372036854775807 < 5 + X1.size + 1 + X2.size) := (by omega); have HX2 := Lib.hid hX2; clear hf h5 hX2 hs2))
  have h5 := H3.out.keep F3.out
  have hs5 := own_keep HS3.out F3.out (fun _ _ h => h)
  have c0 := (HST.out _ F3.out).1
  have hY : (((⟨#[116, 114, 105, 112, 32]⟩ : ByteArray) ++ X1 ++ ⟨#[32]⟩) ++ X2).data.toList = Dk.tripS en co (l.take 0) := by
    rw [ba_app, ba_app, ba_app, HX1.out, HX2.out]
    simp [Dk.tripS, Dk.tTrip]
  have hYs : (((⟨#[116, 114, 105, 112, 32]⟩ : ByteArray) ++ X1 ++ ⟨#[32]⟩) ++ X2).size ≤ 202 := by
    rw [ba_size, hY]
    exact Dk.tripS_len HSM.out.e HSM.out.c HSM.out.len HSM.out.n 0
  clear H3 HS3 HST F1 F2 F3 HX1 HX2 hk1 hk2 hk3
  have H5 := Lib.hid h5; clear h5; have HS5 := Lib.hid hs5; clear hs5; have HY := Lib.hid hY; clear hY; have HYS := Lib.hid hYs; clear hYs
  go_wp2
  go_loopw [7, 9, 30] (fun sv _ i wr => LetRel d q v tv ad bv s t en co l (.slice al l.length cn) (FtD d q v tv bv) w sv i wr) (fun _ _ i _ => l.length - (intOf i).toNat)
  case atStart => exact ⟨0, _, by omega, rfl, rfl, HY.out, HYS.out, H5.out, HS5.out⟩
  case round =>
    clear H5 HS5 HY HYS
    obtain ⟨k, X, hk, rfl, rfl, hX, hXs, h1, hsl⟩ := hrel
    by_cases hkn : k < l.length
    · have hkb : decide ((k : Int) < (l.length : Int)) = true := by simp; omega
      obtain ⟨g, rfl, cg⟩ := Sl.at hsl hkn
      have hx64 : Dk.Sm (l.getD k 0) := HSM.out.n _ (by
        have e : l.getD k 0 = l[k] := by simp [hkn]
        rw [e]; exact List.getElem_mem _)
      have hsu := tripS_succ en co l k hkn
      have hlen := Dk.tripS_len HSM.out.e HSM.out.c HSM.out.len HSM.out.n (k + 1)
      dsimp only at hlen
      generalize l.getD k 0 = x at *
      have H := Lib.hid h1; clear h1; have HSL := Lib.hid hsl; clear hsl; have HX := Lib.hid hX; clear hX; have HX64 := Lib.hid hx64; clear hx64; have HSU := Lib.hid hsu; clear hsu; have HLEN := Lib.hid hlen; clear hlen
      go_wp2_with fail
      refine (Num_any x _ (sm64 HX64.out) H.out.at_.env).mono ?_
      intro e w4 h4
      obtain ⟨Y, rfl, hYd, hys, hf⟩ := h4.r
      have hq1 : Y.size ≤ 21 := by rw [hys]; exact Dk.itoa_len HX64.out
      have h6 := H.out.keep hf
      have hs6 := own_keep HSL.out hf (fun _ _ h => h)
      have hZ : (X ++ ((⟨#[32]⟩ : ByteArray) ++ Y)).data.toList = Dk.tripS en co (l.take (k + 1)) := by
        rw [ba_app, ba_app, HX.out, hYd, HSU.out]
        rfl
      have hZs : (X ++ ((⟨#[32]⟩ : ByteArray) ++ Y)).size ≤ 202 := by rw [ba_size, hZ]; exact HLEN.out
      clear hf h4 hYd hys H HSL HX
      have H6 := Lib.hid h6; clear h6; have HS6 := Lib.hid hs6; clear hs6; have HZ := Lib.hid hZ; clear hZ; have HZS := Lib.hid hZs; clear hZs
      go_wp2
      go_roundw
      case rel => exact ⟨k + 1, _, by omega, by go_num, rfl, HZ.out, HZS.out, H6.out, HS6.out⟩
      case measure => simp [intOf]; omega
    · have e : l.take k = l := List.take_of_length_le (by omega)
      rw [e] at hX
      have hkb : decide ((k : Int) < (l.length : Int)) = false := by simp; omega
      clear e hsl
      have H1 := Lib.hid h1; clear h1; have HX := Lib.hid hX; clear hX
      go_wp2_with fail
      refine (Say_new d _ _ q _ _ s _ (Dk.say [Dk.tripS en co l]) [X] _ _ (by show Dk.say [X.data.toList] = _; rw [HX.out]) (by rw [Dk.say1_len, ← HX.out]; have e : X.data.toList.length = X.size := (ba_size X).symm; omega) (by simp) H1.out.at_).mono ?_
      intro e w3 k3
      obtain ⟨ad3, bv3, v3, tv3, rfl, h3⟩ := DkTo.after H1.out k3
      clear k3
      have H3 := Lib.hid h3; clear h3
      go_wp2
      go_end0
      rw [HR.out]
      exact ⟨ad3, bv3, v3, tv3, rfl, H3.out⟩
end Go.Proofs.YtffoilacaffdgaaGreatDoor
/- Walks: strconv.Atoi; desk.numbers. -/
namespace Go.Proofs.YtffoilacaffdgaaGreatDoor
open Go.RowKit Go.Deep

/-- What Atoi says: a number, and no error; or an error. -/
def AtoiPost (l : Dk.Bs) (w : World) (e : Ending) (w' : World) : Prop :=
  Fr NoB w w' ∧ ((∃ k, Lib.atoiAll l = .ok k ∧ I64 k ∧ e = .returned (.tuple #[.int .i64 k, .nilIface])) ∨ (Dk.numOf l = none ∧ ∃ k te pe, e = .returned (.tuple #[.int .i64 k, .iface te pe])))
theorem Atoi_any (s : ByteArray) (w : World) (hs : s.size ≤ 2097152) (hE : Env w) : Calls Tryz.prog 32 #[.string s] w (AtoiPost s.data.toList w) := by
  cases h : Lib.atoiAll s.data.toList with
  | ok k =>
    refine (Tryz.strconv_Atoi_ok s (by omega) k h w).mono ?_
    rintro e w' ⟨rfl, hw⟩
    refine ⟨?_, .inl ⟨k, h, Lib.atoiAll_bounds h, rfl⟩⟩
    rcases hw with rfl | ⟨t, rfl⟩
    · exact Fr.refl _ _
    · exact Fr.of_below (Lib.bytesWorld_below w _ t)
  | range =>
    obtain ⟨te, pe, hc⟩ := hE.ran
    refine (Tryz.strconv_Atoi_range s (by omega) h _ w hc (.inr ⟨_, _, rfl⟩)).mono ?_
    rintro e w' ⟨N, rfl, _, _, hb⟩
    exact ⟨Fr.of_below hb, .inr ⟨by unfold Dk.numOf; rw [h], _, _, _, rfl⟩⟩
  | _ =>
    obtain ⟨te, pe, hc⟩ := hE.syn
    refine (Tryz.strconv_Atoi_none s (by omega) (by intro v e; rw [h] at e; cases e) (by intro e; rw [h] at e; cases e) _ w hc (.inr ⟨_, _, rfl⟩)).mono ?_
    rintro e w' ⟨N, rfl, _, _, hb⟩
    exact ⟨Fr.of_below hb, .inr ⟨by unfold Dk.numOf; rw [h], _, _, _, rfl⟩⟩
theorem numOf_ok {l : Dk.Bs} {k : Int} (h : Lib.atoiAll l = .ok k) (e : Lib.itoa k = l) : Dk.numOf l = some k := by
  unfold Dk.numOf
  rw [h]
  dsimp only
  rw [if_pos e]
theorem numOf_no {l : Dk.Bs} {k : Int} (h : Lib.atoiAll l = .ok k) (e : Lib.itoa k ≠ l) : Dk.numOf l = none := by
  unfold Dk.numOf
  rw [h]
  dsimp only
  rw [if_neg e]
theorem str_neq (X Y : ByteArray) : (X.toList == Y.toList) = decide (X.data.toList = Y.data.toList) := by
  rw [ByteArray.toList_eq, ByteArray.toList_eq]
  by_cases h : X.data.toList = Y.data.toList
  · rw [h]; simp
  · rw [decide_eq_false h]
    simpa using h
/-- The numbers of words; none. -/
def NumsPost (o : Option (List Int)) (w : World) (e : Ending) (w' : World) : Prop :=
  Fr NoB w w' ∧ ((o = none ∧ e = .returned (.tuple #[.slice none 0 0, .bool false])) ∨ (∃ xs v, o = some xs ∧ e = .returned (.tuple #[v, .bool true]) ∧ Sl w' w.heap.size v xs))
def NumsRel (ss : List ByteArray) (w : World) (v i : Value) (wr : World) : Prop :=
  ∃ (k : Nat) (xs : List Int), k ≤ ss.length ∧ i = .int .i64 k ∧ Dk.numsOf (bss (ss.take k)) = some xs ∧ Sl wr w.heap.size v xs ∧ Fr NoB w wr
theorem bss_step {ss : List ByteArray} {k : Nat} (h : k < ss.length) : bss (ss.take (k + 1)) = bss (ss.take k) ++ [(ss.getD k .empty).data.toList] ∧ bss ss = bss (ss.take k) ++ [(ss.getD k .empty).data.toList] ++ bss (ss.drop (k + 1)) := by
  have h1 : ss.take (k + 1) = ss.take k ++ [ss.getD k .empty] := by
    rw [List.take_add_one]
    simp [h]
  refine ⟨by unfold bss; rw [h1, List.map_append]; rfl, ?_⟩
  have h2 : ss = ss.take k ++ [ss.getD k .empty] ++ ss.drop (k + 1) := by rw [← h1]; exact (List.take_append_drop _ _).symm
  conv => lhs; rw [h2]
  unfold bss
  rw [List.map_append, List.map_append]
  rfl
theorem ints_app (xs : List Int) (x : Int) : xs.map (Value.int .i64) ++ [Value.int .i64 x] = (xs ++ [x]).map (Value.int .i64) := by simp
set_option maxRecDepth 100000 in
set_option maxHeartbeats 8000000 in
theorem Numbers_any (a : Option Addr) (c : Nat) (ss : List ByteArray) (w : World) (hS : RdS w a ss) (hz : ∀ x ∈ ss, x.size ≤ 2097152) (hn : ss.length ≤ 2097152) (hE : Env w) :
    Calls Tryz.prog 28 #[.slice a ss.length c] w (NumsPost (Dk.numsOf (bss ss)) w) := by
  obtain ⟨R, hR⟩ : ∃ R, R = NumsPost (Dk.numsOf (bss ss)) w := ⟨_, rfl⟩
  rw [← hR]
  have HR := Lib.hid hR; clear hR; have HS := Lib.hid hS; clear hS; have HZ := Lib.hid hz; clear hz; have HE := Lib.hid hE; clear hE
  go_enter Tryz.func28, Tryz.ntmps28
  go_wp2
  go_loopw [4, 6, 7, 8, 11] (fun v _ _ _ i wr => NumsRel ss w v i wr) (fun _ _ _ _ i _ => ss.length - (intOf i).toNat)
  case atStart => exact ⟨0, [], by omega, rfl, rfl, Sl.nil _ _, Fr.refl _ _⟩
  case round =>
    obtain ⟨k, xs, hk, rfl, hxs, hv, hf⟩ := hrel
    have hxl := Dk.nums_len hxs
    unfold bss at hxl
    rw [List.length_map, List.length_take] at hxl
    have hxl : xs.length ≤ 2097152 := by omega
    by_cases hkn : k < ss.length
    · have hkb : decide ((k : Int) < (ss.length : Int)) = true := by simp; omega
      obtain ⟨b0, o0, rfl, c0⟩ := (HS.out.keep0 hf) k hkn
      obtain ⟨hb1, hb2⟩ := bss_step hkn
      have hsz := HZ.out (ss.getD k .empty) (by rw [List.getD_eq_getElem?_getD, List.getElem?_eq_getElem hkn]; exact List.getElem_mem _)
      have hat := fun W (hW : Fr NoB w W) => Atoi_any (ss.getD k .empty) W hsz (HE.out.keep0 hW)
      generalize ss.getD k .empty = X at *
      have HV := Lib.hid hv; clear hv; have HF := Lib.hid hf; clear hf; have HXS := Lib.hid hxs; clear hxs; have HB1 := Lib.hid hb1; clear hb1; have HB2 := Lib.hid hb2; clear hb2; have HAT := Lib.hid hat; clear hat
      go_wp2_with fail
      refine (HAT.out _ HF.out).mono ?_
      rintro e w1 ⟨hf1, h1⟩
      have hF1 := HF.out.trans hf1
      have hv1 : Sl w1 w.heap.size _ xs := own_keep HV.out hf1 (fun _ _ h => h)
      clear HV HF hf1 c0 HAT
      have HV := Lib.hid hv1; clear hv1; have HF := Lib.hid hF1; clear hF1
      rcases h1 with ⟨kk, hok, hk64, rfl⟩ | ⟨hno, kk, te, pe, rfl⟩
      · have HOK := Lib.hid hok; clear hok; have HK64 := Lib.hid hk64; clear hk64
        go_wp2_with fail
        refine (Num_any kk _ HK64.out (HE.out.keep0 HF.out)).mono ?_
        intro e w2 h2
        obtain ⟨Y, rfl, hY, _, hf2⟩ := h2.r
        have hF2 := HF.out.trans hf2
        have hv2 : Sl w2 w.heap.size _ xs := own_keep HV.out hf2 (fun _ _ h => h)
        clear HV HF hf2 h2
        have HV := Lib.hid hv2; clear hv2; have HF := Lib.hid hF2; clear hF2
        by_cases hq : Lib.itoa kk = X.data.toList
        · have hqb : (Y.toList == X.toList) = true := by rw [str_neq, hY, hq]; simp
          have hnum := numOf_ok HOK.out hq
          have hst : Dk.numsOf (bss (ss.take (k + 1))) = some (xs ++ [kk]) := by rw [HB1.out]; exact Dk.nums_snoc hnum HXS.out
          clear hnum hq hY
          have HST := Lib.hid hst; clear hst
          have hnew : ∀ j u, ([.int .i64 kk] : List Value)[j]? = some u → (w2.alloc (.cells #[.int .i64 kk] 3)).cell? ((⟨w2.heap.size, 0, none⟩ : Addr).add j) = some u := by
            intro j u hj
            match j, hj with
            | 0, hj => simp at hj; subst hj; simp [Addr.add]
          have hzz := HF.out.size
          go_wp2_with (at_builtin; refine app_own rfl _ _ 76 3 1 8 _ rfl Tryz.underlying76 Tryz.info3 rfl (by omega) w.heap.size _ xs.length _ rfl (World.ownsRow.alloc HV.out _) ⟨w2.heap.size, 0, none⟩ 1 1 [.int .i64 kk] rfl rfl hnew (ints_one [kk]) (by omega) (by omega) (by simp; omega) ?_; intro v' w3 hv3 hf3)
          have hF3 : Fr NoB w w3 := (HF.out.alloc _).ownB (World.ownsRow.alloc HV.out _) (Nat.le_refl _) hf3
          have hv3' : Sl w3 w.heap.size v' (xs ++ [kk]) := by
            unfold Sl
            rw [List.length_append, ← ints_app]
            exact hv3
          clear hv3 hf3 HV HF hnew
          have HV := Lib.hid hv3'; clear hv3'; have HF := Lib.hid hF3; clear hF3
          go_wp2
          go_roundw
          case rel => exact ⟨k + 1, xs ++ [kk], by omega, by go_num, HST.out, HV.out, HF.out⟩
          case measure => simp [intOf]; omega
        · have hqb : (Y.toList == X.toList) = false := by rw [str_neq, hY]; simpa using hq
          have hno : Dk.numsOf (bss ss) = none := by
            rw [HB2.out]
            exact Dk.nums_no _ (Dk.nums_snoc_no (numOf_no HOK.out hq) HXS.out)
          clear hq hY
          have HNO := Lib.hid hno; clear hno
          go_wp2
          rw [HR.out]
          exact ⟨HF.out, .inl ⟨HNO.out, rfl⟩⟩
      · have hno : Dk.numsOf (bss ss) = none := by
          rw [HB2.out]
          exact Dk.nums_no _ (Dk.nums_snoc_no hno HXS.out)
        have HNO := Lib.hid hno; clear hno
        go_wp2
        rw [HR.out]
        exact ⟨HF.out, .inl ⟨HNO.out, rfl⟩⟩
    · have e : ss.take k = ss := List.take_of_length_le (by omega)
      rw [e] at hxs
      have hkb : decide ((k : Int) < (ss.length : Int)) = false := by simp; omega
      clear e
      have HV := Lib.hid hv; clear hv; have HF := Lib.hid hf; clear hf; have HXS := Lib.hid hxs; clear hxs
      go_wp2
      rw [HR.out]
      exact ⟨HF.out, .inr ⟨xs, _, HXS.out, rfl, HV.out⟩⟩
end Go.Proofs.YtffoilacaffdgaaGreatDoor
/- A prefix, or none, as a call hands it back. -/
namespace Go.Proofs.YtffoilacaffdgaaGreatDoor
open Go.RowKit Go.Deep

/-- A prefix, or none. -/
def PfOr (o : Option Tb.Pf) (w : World) (e : Ending) (w' : World) : Prop := e = .returned (.tuple #[pfA (o.getD ⟨0, 0⟩), .bool o.isSome]) ∧ Fr NoB w w'
end Go.Proofs.YtffoilacaffdgaaGreatDoor
/- Walks: prefix.Parse. -/
namespace Go.Proofs.YtffoilacaffdgaaGreatDoor
open Go.RowKit Go.Deep

def CutPost (T : ByteArray) (b : Bool) (w : World) (e : Ending) (w' : World) : Prop := e = .returned (.tuple #[.string T, .bool b]) ∧ w' = w
theorem cut_call (s T : ByteArray) (b : Bool) (hs : s.size ≤ maxLen) (h1 : Lib.trimSuffix s.data.toList [42] = T.data.toList) (h2 : Lib.hasSuffix s.data.toList [42] = b) (w : World) :
    Calls Tryz.prog 73 #[.string s, .string ⟨#[42]⟩] w (CutPost T b w) := by
  have h := Tryz.strings_CutSuffix s ⟨#[42]⟩ w (by unfold maxLen at hs; exact hs)
  have hR2 : ((⟨#[42]⟩ : ByteArray).data.toList) = [42] := rfl
  rw [hR2, h1, h2] at h
  exact h
theorem none_post (w w' : World) (h : Fr NoB w w') : PfOr none w (.returned (.tuple #[pfA ⟨0, 0⟩, .bool false])) w' := ⟨rfl, h⟩
set_option maxRecDepth 100000 in
set_option maxHeartbeats 4000000 in
theorem Parse_long (s T : ByteArray) (b : Bool) (w : World) (hs : s.size ≤ maxLen) (h1 : Lib.trimSuffix s.data.toList [42] = T.data.toList) (h2 : Lib.hasSuffix s.data.toList [42] = b) (hT : 8 < T.size) :
    Calls Tryz.prog 44 #[.string s] w (PfOr none w) := by
  have hc := cut_call s T b hs h1 h2
  have hT' : decide ((8 : Int) < (T.size : Int)) = true := by simp; omega
  have HC := Lib.hid hc; clear hc
  clear hs h1 h2 hT
  go_enter Tryz.func44, Tryz.ntmps44
  go_upto_region 1 with fail
  refine wp_name fun w1 hw1 => ?_
  have hF : Fr NoB w w1 := by rw [hw1]; (repeat (first | exact Fr.refl _ _ | refine Fr.alloc ?_ _ | refine Fr.setNew ?_ (by omega) _ _ | refine Fr.drewN ?_ _ | refine Fr.drew ?_))
  have hr : w1.rowIs w.heap.size 83 2 (fun _ => .int .i64 0) := by rw [hw1]; exact rowIs_new w 2 (.int .i64 0) 83
  clear hw1
  have z0 := World.rowIs.cell hr (i := 0) (by omega)
  have z1 := World.rowIs.cell hr (i := 1) (by omega)
  have f0 := World.rowIs.frozen hr 0
  have f1 := World.rowIs.frozen hr 1
  have HF := Lib.hid hF; clear hF; have HR := Lib.hid hr; clear hr
  go_wp2_with fail
  refine (HC.out _).mono ?_
  rintro e w2 ⟨rfl, rfl⟩
  go_wp2
  refine bodyPost_ret (v := .tuple #[pfA ⟨0, 0⟩, .bool false]) ?_ rfl (none_post w _ ((HF.out.setNew (Nat.le_refl _) _ _).setNew (Nat.le_refl _) _ _))
  simp [results, Tryz.results44, go_sem, pfA, z0, z1]
set_option maxRecDepth 100000 in
set_option maxHeartbeats 4000000 in
theorem Parse_mixed (s T : ByteArray) (b : Bool) (w : World) (hs : s.size ≤ maxLen) (h1 : Lib.trimSuffix s.data.toList [42] = T.data.toList) (h2 : Lib.hasSuffix s.data.toList [42] = b) (hT : T.size ≤ 8) (hb : ((T.size : Int) == 8) = b) :
    Calls Tryz.prog 44 #[.string s] w (PfOr none w) := by
  have hc := cut_call s T b hs h1 h2
  have hT' : decide ((8 : Int) < (T.size : Int)) = false := by simp; omega
  have HC := Lib.hid hc; clear hc
  clear hs h1 h2 hT
  cases b <;>
  · go_enter Tryz.func44, Tryz.ntmps44
    go_upto_region 1 with fail
    refine wp_name fun w1 hw1 => ?_
    have hF : Fr NoB w w1 := by rw [hw1]; (repeat (first | exact Fr.refl _ _ | refine Fr.alloc ?_ _ | refine Fr.setNew ?_ (by omega) _ _ | refine Fr.drewN ?_ _ | refine Fr.drew ?_))
    have hr : w1.rowIs w.heap.size 83 2 (fun _ => .int .i64 0) := by rw [hw1]; exact rowIs_new w 2 (.int .i64 0) 83
    clear hw1
    have z0 := World.rowIs.cell hr (i := 0) (by omega)
    have z1 := World.rowIs.cell hr (i := 1) (by omega)
    have f0 := World.rowIs.frozen hr 0
    have f1 := World.rowIs.frozen hr 1
    have HF := Lib.hid hF; clear hF; have HR := Lib.hid hr; clear hr
    go_wp2_with fail
    refine (HC.out _).mono ?_
    rintro e w2 ⟨rfl, rfl⟩
    go_wp2
    refine bodyPost_ret (v := .tuple #[pfA ⟨0, 0⟩, .bool false]) ?_ rfl (none_post w _ ((HF.out.setNew (Nat.le_refl _) _ _).setNew (Nat.le_refl _) _ _))
    simp [results, Tryz.results44, go_sem, pfA, z0, z1]
/-- The bits read so far. -/
def PsRel (T : ByteArray) (w : World) (B : Nat) (i : Value) (wr : World) : Prop :=
  ∃ k : Nat, k ≤ T.size ∧ i = .int .i64 k ∧ Tb.allb (T.data.toList.take k) ∧
    (∃ F : Nat → Value, wr.rowIs B 83 2 F ∧ F 0 = .int .i64 T.size ∧ F 1 = .int .i64 (Tb.vl (T.data.toList.take k))) ∧
    wr.rowIs w.heap.size 83 2 (fun _ => .int .i64 0) ∧ Fr NoB w wr
def psOpt (T : ByteArray) : Option Tb.Pf := if Tb.allb T.data.toList then some ⟨T.size, Tb.vl T.data.toList⟩ else none
theorem pair_row (w : World) (x y : Value) (t : TypeId) : ∃ F : Nat → Value, (w.alloc (.cells #[x, y] t)).rowIs w.heap.size t 2 F ∧ F 0 = x ∧ F 1 = y := by
  refine ⟨fun i => (#[x, y] : Array Value).getD i x, World.rowIs_alloc w #[x, y] t _ (fun i hi => ?_), rfl, rfl⟩
  have hi : i < 2 := hi
  have : i = 0 ∨ i = 1 := by omega
  rcases this with rfl | rfl <;> rfl
theorem idx_ty : Tryz.prog.underlying 9 = some .string := by kernel_rfl
theorem idx_run (T : ByteArray) (k : Nat) (h : k < T.size) (W : World) : (Instr.index 9 (.string T) (.int .i64 k)).run Tryz.prog W = .ok (.int .u8 ((T.data.toList[k]'(by rw [← ba_size]; exact h)).toNat)) W := by
  rw [run_index_string W 9 T .i64 k idx_ty, dif_pos ⟨by omega, by omega⟩]
  congr 1
theorem take_snoc {l : List UInt8} {k : Nat} (h : k < l.length) : l.take (k + 1) = l.take k ++ [l[k]] := by simp
theorem psOpt_all {T : ByteArray} (h : Tb.allb (T.data.toList.take T.size)) : psOpt T = some ⟨T.size, Tb.vl (T.data.toList.take T.size)⟩ := by
  have e : T.data.toList.take T.size = T.data.toList := by rw [ba_size, List.take_length]
  rw [e] at h ⊢
  unfold psOpt
  rw [if_pos h]
theorem psOpt_no {T : ByteArray} {k : Nat} (h : k < T.data.toList.length) (hn : ¬ Tb.isb T.data.toList[k]) : psOpt T = none := by
  unfold psOpt
  rw [if_neg (fun ha => hn (ha _ (List.getElem_mem h)))]
theorem PsRel.next {T : ByteArray} {w wr : World} {B k : Nat} {F : Nat → Value} (hk : k < T.size) (hall : Tb.allb (T.data.toList.take (k + 1))) (hp : wr.rowIs B 83 2 F) (hp0 : F 0 = .int .i64 T.size)
    (hr : wr.rowIs w.heap.size 83 2 (fun _ => .int .i64 0)) (hf : Fr NoB w wr) (hB : w.heap.size < B) {X : Int} (hX : X = Tb.vl (T.data.toList.take (k + 1))) :
    PsRel T w B (.int .i64 ((k : Int) + 1)) (wr.setCell ⟨B, 1, none⟩ (.int .i64 X)).drew := by
  subst hX
  refine ⟨k + 1, hk, rfl, hall, ⟨_, World.rowIs.set hp 1 _, ?_, ?_⟩, World.rowIs.setOther hr (by show w.heap.size ≠ B; omega) _, (hf.setNew (by omega) _ _).drew⟩
  · rw [if_neg (by decide)]; exact hp0
  · rw [if_pos rfl]
set_option maxRecDepth 100000 in
set_option maxHeartbeats 4000000 in
theorem Parse_loop (s T : ByteArray) (b : Bool) (w : World) (hs : s.size ≤ maxLen) (h1 : Lib.trimSuffix s.data.toList [42] = T.data.toList) (h2 : Lib.hasSuffix s.data.toList [42] = b) (hT : T.size ≤ 8) (hb : ((T.size : Int) == 8) = !b) :
    Calls Tryz.prog 44 #[.string s] w (PfOr (psOpt T) w) := by
  have hc := cut_call s T b hs h1 h2
  have hT' : decide ((8 : Int) < (T.size : Int)) = false := by simp; omega
  have HC := Lib.hid hc; clear hc
  clear hs h1 h2
  cases b <;>
  · go_enter Tryz.func44, Tryz.ntmps44
    go_upto_region 1 with fail
    refine wp_name fun w1 hw1 => ?_
    have hF : Fr NoB w w1 := by rw [hw1]; (repeat (first | exact Fr.refl _ _ | refine Fr.alloc ?_ _ | refine Fr.setNew ?_ (by omega) _ _ | refine Fr.drewN ?_ _ | refine Fr.drew ?_))
    have hr : w1.rowIs w.heap.size 83 2 (fun _ => .int .i64 0) := by rw [hw1]; exact rowIs_new w 2 (.int .i64 0) 83
    have hz : w.heap.size < w1.heap.size := by rw [hw1]; simp
    clear hw1
    have HZ := Lib.hid hz
    clear hz
    have HF := Lib.hid hF; clear hF; have HR := Lib.hid hr; clear hr
    go_wp2_with fail
    refine (HC.out _).mono ?_
    rintro e w2 ⟨rfl, rfl⟩
    go_upto_region 5 with fail
    refine wp_name fun w3 hw3 => ?_
    obtain ⟨B, hB⟩ : ∃ B, B = w2.heap.size := ⟨_, rfl⟩
    have hp := pair_row w2 (.int .i64 T.size) (.int .i64 0) 83
    rw [← hw3, ← hB] at hp
    have hF3 : Fr NoB w w3 := by rw [hw3]; exact HF.out.alloc _
    have hr3 : w3.rowIs w.heap.size 83 2 (fun _ => .int .i64 0) := ((Fr.refl NoB w2).alloc _).row HR.out (fun h => h) |> fun h => by rw [hw3]; exact h
    have hz : w.heap.size < B := hB ▸ HZ.out
    rw [← hB]
    clear hw3 hB HR HF
    have HF := Lib.hid hF3; clear hF3; have HR := Lib.hid hr3; clear hr3; have HP := Lib.hid hp; clear hp
    go_wp2
    go_loopw [29] (fun i wr => PsRel T w B i wr) (fun i _ => T.size - (intOf i).toNat)
    case atStart => exact ⟨0, by omega, rfl, (fun c hc => by cases hc), HP.out, HR.out, HF.out⟩
    case round =>
      obtain ⟨k, hk, rfl, hall, ⟨F, hp, hp0, hp1⟩, hr, hf⟩ := hrel
      have z0 := World.rowIs.cell hr (i := 0) (by omega)
      have z1 := World.rowIs.cell hr (i := 1) (by omega)
      have f0 := World.rowIs.frozen hr 0
      have f1 := World.rowIs.frozen hr 1
      have c0 := World.rowIs.cell hp (i := 0) (by omega)
      have c1 := World.rowIs.cell hp (i := 1) (by omega)
      have g1 := World.rowIs.frozen hp 1
      rw [hp0] at c0
      rw [hp1] at c1
      have hv := Tb.vl_lt k (T.data.toList.take k) (by rw [List.length_take, ← ba_size]; omega) hall
      by_cases hkk : k < T.size
      · have hkb : decide ((k : Int) < (T.size : Int)) = true := by simp; omega
        have hv256 : Tb.vl (T.data.toList.take k) < 128 := Nat.lt_of_lt_of_le hv (Nat.le_trans (Nat.pow_le_pow_right (by decide) (show k ≤ 7 by omega)) (by decide))
        have hidx := idx_run T k hkk
        have hlen : k < T.data.toList.length := by rw [← ba_size]; exact hkk
        have htk := take_snoc hlen
        by_cases h48 : T.data.toList[k] = 48
        · rw [h48] at hidx htk
          have hidx : ∀ W, (Instr.index 9 (.string T) (.int .i64 k)).run Tryz.prog W = .ok (.int .u8 48) W := hidx
          have hor := or0 _ (show Tb.vl (T.data.toList.take k) < 256 by omega)
          have hall' : Tb.allb (T.data.toList.take (k + 1)) := by
            rw [htk]
            intro c hc
            rcases List.mem_append.1 hc with h | h
            · exact hall c h
            · rw [List.mem_singleton] at h; exact .inl h
          have hnv : Tb.vl (T.data.toList.take (k + 1)) = Tb.vl (T.data.toList.take k) * 2 + 0 := by rw [htk, Tb.vl_snoc]; rfl
          generalize Tb.vl (T.data.toList.take k) = V at *
          have HF1 := Lib.hid hf; clear hf; have HA := Lib.hid hall'; clear hall'; have HV := Lib.hid hnv; clear hnv; have HP1 := Lib.hid hp; clear hp; have HR1 := Lib.hid hr; clear hr; have HP0 := Lib.hid hp0; clear hp0; have HALL := Lib.hid hall; clear hall; have HTK := Lib.hid htk; clear htk; have HVV := Lib.hid hv; clear hv; have H48 := Lib.hid h48; clear h48; have HP2 := Lib.hid hp1; clear hp1; have HZB := Lib.hid hz; clear hz
          go_wp2
          go_region
          go_wp2
          go_roundw
          case rel => exact PsRel.next hkk HA.out HP1.out HP0.out HR1.out HF1.out HZB.out (by rw [HV.out]; omega)
          case measure => simp [intOf]; omega
        · by_cases h48' : T.data.toList[k] = 49
          · rw [h48'] at hidx htk
            have hidx : ∀ W, (Instr.index 9 (.string T) (.int .i64 k)).run Tryz.prog W = .ok (.int .u8 49) W := hidx
            have hor := or1 _ (show Tb.vl (T.data.toList.take k) < 256 by omega)
            have hall' : Tb.allb (T.data.toList.take (k + 1)) := by
              rw [htk]
              intro c hc
              rcases List.mem_append.1 hc with h | h
              · exact hall c h
              · rw [List.mem_singleton] at h; exact .inr h
            have hnv : Tb.vl (T.data.toList.take (k + 1)) = Tb.vl (T.data.toList.take k) * 2 + 1 := by rw [htk, Tb.vl_snoc]; rfl
            generalize Tb.vl (T.data.toList.take k) = V at *
            have HF1 := Lib.hid hf; clear hf; have HA := Lib.hid hall'; clear hall'; have HV := Lib.hid hnv; clear hnv; have HP1 := Lib.hid hp; clear hp; have HR1 := Lib.hid hr; clear hr; have HP0 := Lib.hid hp0; clear hp0; have HALL := Lib.hid hall; clear hall; have HTK := Lib.hid htk; clear htk; have HVV := Lib.hid hv; clear hv; have H49 := Lib.hid h48'; clear h48'; have HP2 := Lib.hid hp1; clear hp1; have HZB := Lib.hid hz; clear hz
            go_wp2
            go_region
            go_wp2
            go_roundw
            case rel => exact PsRel.next hkk HA.out HP1.out HP0.out HR1.out HF1.out HZB.out (by rw [HV.out]; omega)
            case measure => simp [intOf]; omega
          · obtain ⟨c, hcc⟩ : ∃ c : UInt8, c = T.data.toList[k] := ⟨_, rfl⟩
            rw [← hcc] at hidx h48 h48'
            have hno := psOpt_no hlen (fun h => by rw [← hcc] at h; exact h.elim h48 h48')
            have n48 : ((c.toNat : Int) != 48) = true := by
              rw [bne_iff_ne]
              intro h
              exact h48 (UInt8.toNat_inj.1 (by show c.toNat = 48; omega))
            have n49 : ((c.toNat : Int) != 49) = true := by
              rw [bne_iff_ne]
              intro h
              exact h48' (UInt8.toNat_inj.1 (by show c.toNat = 49; omega))
            generalize (c.toNat : Int) = x at *
            have HF1 := Lib.hid hf; clear hf; have HP1 := Lib.hid hp; clear hp; have HR1 := Lib.hid hr; clear hr; have HP0 := Lib.hid hp0; clear hp0; have HALL := Lib.hid hall; clear hall; have HTK := Lib.hid htk; clear htk; have HVV := Lib.hid hv; clear hv; have H48 := Lib.hid h48; clear h48; have H49 := Lib.hid h48'; clear h48'; have HP2 := Lib.hid hp1; clear hp1; have HZB := Lib.hid hz; clear hz; have HCC := Lib.hid hcc; clear hcc; have HNO := Lib.hid hno; clear hno
            go_wp2
            refine bodyPost_ret (v := .tuple #[pfA ⟨0, 0⟩, .bool false]) ?_ rfl (by rw [HNO.out]; exact none_post w _ ((HF1.out.setNew (Nat.le_refl _) _ _).setNew (Nat.le_refl _) _ _))
            simp [results, Tryz.results44, go_sem, pfA, z0, z1]
      · have e : k = T.size := by omega
        subst e
        have hkb : decide ((T.size : Int) < (T.size : Int)) = false := by simp
        have hpo := psOpt_all hall
        generalize Tb.vl (T.data.toList.take T.size) = V at *
        have hfin : PfOr (psOpt T) w (.returned (.tuple #[pfA ⟨T.size, V⟩, .bool true])) ((wr.setCell ⟨w.heap.size, 0, none⟩ (.int .i64 T.size)).setCell ⟨w.heap.size, 1, none⟩ (.int .i64 V)) := by
          rw [hpo]
          exact ⟨rfl, (hf.setNew (Nat.le_refl _) _ _).setNew (Nat.le_refl _) _ _⟩
        have HF1 := Lib.hid hf; clear hf; have HP1 := Lib.hid hp; clear hp; have HR1 := Lib.hid hr; clear hr; have HP0 := Lib.hid hp0; clear hp0; have HALL := Lib.hid hall; clear hall; have HVV := Lib.hid hv; clear hv; have HP2 := Lib.hid hp1; clear hp1; have HZB := Lib.hid hz; clear hz; have HFIN := Lib.hid hfin; clear hfin; have HPO := Lib.hid hpo; clear hpo
        go_wp2
        refine bodyPost_ret (v := .tuple #[pfA ⟨T.size, V⟩, .bool true]) ?_ rfl HFIN.out
        simp [results, Tryz.results44, go_sem, pfA, z0, z1]
/-- prefix.Parse. -/
theorem Parse_any (s : ByteArray) (w : World) (hs : s.size ≤ maxLen) : Calls Tryz.prog 44 #[.string s] w (PfOr (told s.data.toList) w) := by
  obtain ⟨T, hT⟩ : ∃ T : ByteArray, Lib.trimSuffix s.data.toList [42] = T.data.toList := ⟨⟨(Lib.trimSuffix s.data.toList [42]).toArray⟩, rfl⟩
  obtain ⟨b, hb⟩ : ∃ b, Lib.hasSuffix s.data.toList [42] = b := ⟨_, rfl⟩
  have hsz := ba_size T
  unfold told
  rw [hT, hb, ← hsz]
  by_cases h8 : T.size ≤ 8
  · by_cases h : ((T.size : Int) == 8) = b
    · rw [if_neg (fun k => by rw [h] at k; exact absurd k.2.1 (by simp))]
      exact Parse_mixed s T b w hs hT hb h8 h
    · have hb' : ((T.size : Int) == 8) = !b := by cases b <;> simpa using h
      have := Parse_loop s T b w hs hT hb h8 hb'
      unfold psOpt at this
      by_cases ha : Tb.allb T.data.toList
      · rw [if_pos ⟨h8, by rw [hb']; cases b <;> rfl, ha⟩]
        rw [if_pos ha] at this
        exact this
      · rw [if_neg (fun k => ha k.2.2)]
        rw [if_neg ha] at this
        exact this
  · rw [if_neg (fun k => h8 k.1)]
    exact Parse_long s T b w hs hT hb (by omega)
end Go.Proofs.YtffoilacaffdgaaGreatDoor
/- Walks: a desk's own. -/
namespace Go.Proofs.YtffoilacaffdgaaGreatDoor
open Go.RowKit Go.Deep

/-- What is asked for is done, or it is nothing that can be. -/
def AskPost (d : Nat) (q : PIds) (v tv bv : Value) (s : Fb.PT) (t : Dk.Bs) (o : Option Dk.Cm) (w : World) (e : Ending) (w' : World) : Prop :=
  (o = none ∧ e = .returned (.bool false) ∧ Fr NoB w w') ∨ (∃ cm, o = some cm ∧ DkTo d q v tv bv (.bool true) (Dk.next s cm) (t ++ Dk.tell s cm) w e w')
theorem AskPost.done {d : Nat} {q : PIds} {v tv bv ad1 bv1 v1 tv1 : Value} {s : Fb.PT} {t : Dk.Bs} {cm : Dk.Cm} {o : Option Dk.Cm} {w w' : World} (h : o = some cm) (h1 : DkS (FtD d q v tv bv) w d ad1 bv1 q v1 tv1 (Dk.next s cm) (t ++ Dk.tell s cm) w') : AskPost d q v tv bv s t o w (.returned (.bool true)) w' := .inr ⟨cm, h, ad1, bv1, v1, tv1, rfl, h1⟩
set_option maxRecDepth 100000 in
set_option maxHeartbeats 8000000 in
/-- Another word, or not two words behind it. -/
theorem Own_no (d : Nat) (bv : Value) (q : PIds) (v tv : Value) (s : Fb.PT) (t : Dk.Bs) (wd : ByteArray) (a : Option Addr) (c n : Nat) (l : List Dk.Bs) (w : World) (hno : ¬ ((wd.data.toList = Dk.wOwn ∨ wd.data.toList = Dk.wFree) ∧ l.length = 2)) (hln : n = l.length) :
    Calls Tryz.prog 27 #[.pointer (some ⟨d, 0, none⟩), .string wd, .slice a n c] w (AskPost d q v tv bv s t (Dk.ownOf wd.data.toList l) w) := by
  have ho : Dk.ownOf wd.data.toList l = none := by unfold Dk.ownOf; rw [if_neg hno]
  obtain ⟨R, hR⟩ : ∃ R, R = AskPost d q v tv bv s t (Dk.ownOf wd.data.toList l) w := ⟨_, rfl⟩
  rw [← hR]
  have htl : wd.toList = wd.data.toList := ByteArray.toList_eq wd
  by_cases h1 : wd.data.toList = Dk.wOwn
  · have hl2 : ((n : Int) != 2) = true := by
      have : n ≠ 2 := fun e => hno ⟨.inl h1, by omega⟩
      simp; omega
    have hb1 : wd.toList = [111, 119, 110] := htl.trans h1
    clear hno h1 hln htl
    have HR := Lib.hid hR; clear hR; have HO := Lib.hid ho; clear ho
    go_enter Tryz.func27, Tryz.ntmps27
    go_wp2
    rw [HR.out]
    exact .inl ⟨HO.out, rfl, Fr.refl _ _⟩
  · have hb1 : ¬ wd.toList = [111, 119, 110] := fun e => h1 (htl.symm.trans e)
    by_cases h2 : wd.data.toList = Dk.wFree
    · have hl2 : ((n : Int) != 2) = true := by
        have : n ≠ 2 := fun e => hno ⟨.inr h2, by omega⟩
        simp; omega
      have hb2 : wd.toList = [102, 114, 101, 101] := htl.trans h2
      have hb1 : ¬ ([102, 114, 101, 101] : List UInt8) = [111, 119, 110] := by decide
      clear hno h1 h2 hln htl
      have HR := Lib.hid hR; clear hR; have HO := Lib.hid ho; clear ho
      go_enter Tryz.func27, Tryz.ntmps27
      go_wp2
      rw [HR.out]
      exact .inl ⟨HO.out, rfl, Fr.refl _ _⟩
    · have hb2 : ¬ wd.toList = [102, 114, 101, 101] := fun e => h2 (htl.symm.trans e)
      clear hno h1 h2 hln htl
      have HR := Lib.hid hR; clear hR; have HO := Lib.hid ho; clear ho
      go_enter Tryz.func27, Tryz.ntmps27
      go_wp2
      rw [HR.out]
      exact .inl ⟨HO.out, rfl, Fr.refl _ _⟩
theorem nums_two (y : ByteArray) : Dk.numsOf (bss [y]) = match Dk.numOf y.data.toList with | none => none | some k => some [k] := Dk.nums_one _
def OwnArgs (d : Nat) (ad bv : Value) (q : PIds) (v tv : Value) (s : Fb.PT) (t : Dk.Bs) (x y : ByteArray) (b o c m : Nat) (w : World) : Prop :=
  Dk.DOk s m ∧ m ≤ 1000 ∧ t.length ≤ 9000000 ∧ DkAt w d ad bv q v tv s t ∧ RdS w (some ⟨b, o, none⟩) [x, y] ∧ x.size ≤ 2097152 ∧ y.size ≤ 2097152 ∧ 2 ≤ c ∧ c ≤ maxLen
set_option maxRecDepth 100000 in
set_option maxHeartbeats 16000000 in
theorem Own_free (d : Nat) (ad bv : Value) (q : PIds) (v tv : Value) (s : Fb.PT) (t : Dk.Bs) (x y : ByteArray) (b o c m : Nat) (w : World) (hA : OwnArgs d ad bv q v tv s t x y b o c m w) :
    Calls Tryz.prog 27 #[.pointer (some ⟨d, 0, none⟩), .string ⟨#[102, 114, 101, 101]⟩, .slice (some ⟨b, o, none⟩) 2 c] w (AskPost d q v tv bv s t (Dk.ownOf [102, 114, 101, 101] (bss [x, y])) w) := by
  obtain ⟨hs, hm, hl, h, hS, hx, hy, hc, hcm⟩ := hA
  obtain ⟨R, hR⟩ : ∃ R, R = AskPost d q v tv bv s t (Dk.ownOf [102, 114, 101, 101] (bss [x, y])) w := ⟨_, rfl⟩
  rw [← hR]
  have hown : Dk.ownOf [102, 114, 101, 101] (bss [x, y]) = match told x.data.toList, Dk.numOf y.data.toList with
    | some p, some n => some (.step 7 n 0 0 p.len p.bits)
    | _, _ => none := Dk.own_two _ _ (.inr rfl)
  obtain ⟨b0, o0, e0, c0⟩ := hS.head
  cases e0
  have hS1 := hS.tail
  have hpa := fun W => Parse_any x W (by unfold maxLen; omega)
  have hnu := fun W (hW : Fr NoB w W) => Numbers_any (some ⟨b, o + 1, none⟩) (c - 1) [y] W (hS1.keep0 hW) (fun z hz => by rw [List.mem_singleton.1 hz]; exact hy) (by simp) (h.keep0 hW).env
  have hc1 : ¬ (c = 1) := by omega
  have hcc : (1 : Int) ≤ c := by omega
  rw [nums_two] at hnu
  have hdo := fun (ad' bv' v' tv' : Value) W (p : Tb.Pf) (n : Int) (hW : DkAt W d ad' bv' q v' tv' s t) => DDo_any d ad' bv' q v' tv' s t 7 n 0 0 p.len p.bits m W hs hm hl hW
  have H := Lib.hid h; clear h; have HR := Lib.hid hR; clear hR; have HOWN := Lib.hid hown; clear hown; have HPA := Lib.hid hpa; clear hpa; have HNU := Lib.hid hnu; clear hnu; have HDO := Lib.hid hdo; clear hdo
  clear hs hS hS1
  go_enter Tryz.func27, Tryz.ntmps27
  go_wp2_with fail
  refine (HPA.out _).mono ?_
  rintro e w1 ⟨rfl, hf⟩
  have HF := Lib.hid hf; clear hf
  clear c0 HPA
  cases hp : told x.data.toList with
  | none =>
    rw [hp] at HOWN
    clear hp
    simp only [Option.getD_none, Option.isSome_none, pfA]
    go_wp2_with fail
    refine (HNU.out _ (HF.out.alloc _)).mono ?_
    rintro e w2 ⟨hf2, h2⟩
    have hF2 := (HF.out.alloc _).trans hf2
    clear hf2
    have HF2 := Lib.hid hF2; clear hF2
    rcases h2 with ⟨_, rfl⟩ | ⟨xs, nv, _, rfl, hnv⟩
    · go_wp2
      rw [HR.out]
      exact .inl ⟨HOWN.out, rfl, HF2.out⟩
    · go_wp2
      rw [HR.out]
      exact .inl ⟨HOWN.out, rfl, HF2.out⟩
  | some p =>
    rw [hp] at HOWN
    clear hp
    obtain ⟨pl, pb⟩ := p
    simp only [Option.getD_some, Option.isSome_some, pfA]
    go_upto_region 4 with fail
    refine wp_name fun wz hwz => ?_
    have d0 : wz.cell? ⟨w1.heap.size, 0, none⟩ = some (.int .i64 pl) := by rw [hwz]; simp
    have d1 : wz.cell? ⟨w1.heap.size, 1, none⟩ = some (.int .i64 pb) := by rw [hwz]; simp
    have hFz : Fr NoB w1 wz := by rw [hwz]; (repeat (first | exact Fr.refl _ _ | refine Fr.alloc ?_ _ | refine Fr.setNew ?_ (by omega) _ _ | refine Fr.drewN ?_ _ | refine Fr.drew ?_))
    clear hwz
    have hF := HF.out.trans hFz
    clear HF hFz
    generalize w1.heap.size = z at *
    have HF := Lib.hid hF; clear hF
    go_wp2_with fail
    refine (HNU.out _ HF.out).mono ?_
    rintro e w2 ⟨hf2, h2⟩
    have d0 := cell_fr' hf2 d0 (fun h => h)
    have d1 := cell_fr' hf2 d1 (fun h => h)
    have hF2 := HF.out.trans hf2
    clear hf2 HF HNU
    have HF2 := Lib.hid hF2; clear hF2
    cases hk : Dk.numOf y.data.toList with
    | none =>
      rw [hk] at HOWN
      rw [hk] at h2
      rcases h2 with ⟨_, rfl⟩ | ⟨xs, nv, e, _, _⟩
      · clear hk
        go_wp2
        rw [HR.out]
        exact .inl ⟨HOWN.out, rfl, HF2.out⟩
      · cases e
    | some kk =>
      rw [hk] at HOWN
      rw [hk] at h2
      rcases h2 with ⟨e, _⟩ | ⟨xs, nv, e, rfl, hnv⟩
      · cases e
      · cases e
        clear hk
        obtain ⟨al, cn, rfl, hj⟩ := ownsRow_rd hnv
        clear hj
        obtain ⟨g, rfl, cg⟩ := Sl.at hnv (k := 0) (by simp)
        simp only [List.getD_cons_zero, List.length_cons, List.length_nil] at cg ⊢
        clear hnv
        have h2 := (DkS.start H.out).keep HF2.out
        clear H HF2
        have d0a : (w2.alloc (.cells #[.int .i64 0, .int .i64 0, .int .i64 0, .int .i64 0, .int .i64 0, .int .i64 0] 93)).cell? ⟨z, 0, none⟩ = some (.int .i64 pl) := cell_fr' ((Fr.refl NoB w2).alloc _) d0 (fun h => h)
        have d1a : (w2.alloc (.cells #[.int .i64 0, .int .i64 0, .int .i64 0, .int .i64 0, .int .i64 0, .int .i64 0] 93)).cell? ⟨z, 1, none⟩ = some (.int .i64 pb) := cell_fr' ((Fr.refl NoB w2).alloc _) d1 (fun h => h)
        have cga : (w2.alloc (.cells #[.int .i64 0, .int .i64 0, .int .i64 0, .int .i64 0, .int .i64 0, .int .i64 0] 93)).cell? ⟨g, 0, none⟩ = some (.int .i64 kk) := cell_fr' ((Fr.refl NoB w2).alloc _) cg (fun h => h)
        have hzl : z < w2.heap.size := World.block_lt_of_cell? w2 _ d0
        have hgl : g < w2.heap.size := World.block_lt_of_cell? w2 _ cg
        have hz1 : ¬ z = w2.heap.size := by omega
        have hg1 : ¬ g = w2.heap.size := by omega
        have H2 := Lib.hid h2; clear h2
        clear hz1 hg1 hzl hgl d0a d1a cga
        go_upto_region 6 with fail
        go_region_held3 (fun W => W.cell? ⟨g, 0, none⟩ = some (.int .i64 kk) ∧ W.cell? ⟨z, 0, none⟩ = some (.int .i64 pl) ∧ W.cell? ⟨z, 1, none⟩ = some (.int .i64 pb))
          (first | exact ⟨cg, d0, d1⟩ | exact ⟨cell_fr' (S := NoB) (by (repeat (first | exact Fr.refl _ _ | refine Fr.alloc ?_ _ | refine Fr.setNew ?_ (by omega) _ _ | refine Fr.drewN ?_ _ | refine Fr.drew ?_))) cg (fun h => h), cell_fr' (S := NoB) (by (repeat (first | exact Fr.refl _ _ | refine Fr.alloc ?_ _ | refine Fr.setNew ?_ (by omega) _ _ | refine Fr.drewN ?_ _ | refine Fr.drew ?_))) d0 (fun h => h), cell_fr' (S := NoB) (by (repeat (first | exact Fr.refl _ _ | refine Fr.alloc ?_ _ | refine Fr.setNew ?_ (by omega) _ _ | refine Fr.drewN ?_ _ | refine Fr.drew ?_))) d1 (fun h => h)⟩)
          (first | (fail))
        go_upto_region 9 with fail
        refine wp_name fun w5 hw5 => ?_
        have x0 : w5.cell? ⟨w2.heap.size, 0, none⟩ = some (.int .i64 7) := by rw [hw5]; simp
        have x1 : w5.cell? ⟨w2.heap.size, 1, none⟩ = some (.int .i64 kk) := by rw [hw5]; simp
        have x2 : w5.cell? ⟨w2.heap.size, 2, none⟩ = some (.int .i64 0) := by rw [hw5]; simp
        have x3 : w5.cell? ⟨w2.heap.size, 3, none⟩ = some (.int .i64 0) := by rw [hw5]; simp
        have x4 : w5.cell? ⟨w2.heap.size, 4, none⟩ = some (.int .i64 pl) := by rw [hw5]; simp
        have x5 : w5.cell? ⟨w2.heap.size, 5, none⟩ = some (.int .i64 pb) := by rw [hw5]; simp
        have hF5 : Fr NoB w2 w5 := by rw [hw5]; (repeat (first | exact Fr.refl _ _ | refine Fr.alloc ?_ _ | refine Fr.setNew ?_ (by omega) _ _ | refine Fr.drewN ?_ _ | refine Fr.drew ?_))
        clear hw5
        have h5 := H2.out.keep hF5
        clear hF5 H2 cg d0 d1
        generalize w2.heap.size = z5 at *
        have hdo := HDO.out ad bv v tv w5 ⟨pl, pb⟩ kk h5.at_
        unfold step6 at hdo
        dsimp only at hdo
        have H5 := Lib.hid h5; clear h5; have HD := Lib.hid hdo; clear hdo
        clear HDO
        go_wp2_with fail
        refine HD.out.mono ?_
        rintro e w6 ⟨ad6, bv6, v6, tv6, rfl, h6⟩
        have h7 := H5.out.go h6
        clear h6 HD
        have H7 := Lib.hid h7; clear h7
        go_wp2
        rw [HR.out]
        exact AskPost.done HOWN.out H7.out
set_option maxRecDepth 100000 in
set_option maxHeartbeats 16000000 in
theorem Own_own (d : Nat) (ad bv : Value) (q : PIds) (v tv : Value) (s : Fb.PT) (t : Dk.Bs) (x y : ByteArray) (b o c m : Nat) (w : World) (hA : OwnArgs d ad bv q v tv s t x y b o c m w) :
    Calls Tryz.prog 27 #[.pointer (some ⟨d, 0, none⟩), .string ⟨#[111, 119, 110]⟩, .slice (some ⟨b, o, none⟩) 2 c] w (AskPost d q v tv bv s t (Dk.ownOf [111, 119, 110] (bss [x, y])) w) := by
  obtain ⟨hs, hm, hl, h, hS, hx, hy, hc, hcm⟩ := hA
  obtain ⟨R, hR⟩ : ∃ R, R = AskPost d q v tv bv s t (Dk.ownOf [111, 119, 110] (bss [x, y])) w := ⟨_, rfl⟩
  rw [← hR]
  have hown : Dk.ownOf [111, 119, 110] (bss [x, y]) = match told x.data.toList, Dk.numOf y.data.toList with
    | some p, some n => some (.step 7 n 0 1 p.len p.bits)
    | _, _ => none := Dk.own_two _ _ (.inl rfl)
  obtain ⟨b0, o0, e0, c0⟩ := hS.head
  cases e0
  have hS1 := hS.tail
  have hpa := fun W => Parse_any x W (by unfold maxLen; omega)
  have hnu := fun W (hW : Fr NoB w W) => Numbers_any (some ⟨b, o + 1, none⟩) (c - 1) [y] W (hS1.keep0 hW) (fun z hz => by rw [List.mem_singleton.1 hz]; exact hy) (by simp) (h.keep0 hW).env
  have hc1 : ¬ (c = 1) := by omega
  have hcc : (1 : Int) ≤ c := by omega
  rw [nums_two] at hnu
  have hdo := fun (ad' bv' v' tv' : Value) W (p : Tb.Pf) (n : Int) (hW : DkAt W d ad' bv' q v' tv' s t) => DDo_any d ad' bv' q v' tv' s t 7 n 0 1 p.len p.bits m W hs hm hl hW
  have H := Lib.hid h; clear h; have HR := Lib.hid hR; clear hR; have HOWN := Lib.hid hown; clear hown; have HPA := Lib.hid hpa; clear hpa; have HNU := Lib.hid hnu; clear hnu; have HDO := Lib.hid hdo; clear hdo
  clear hs hS hS1
  go_enter Tryz.func27, Tryz.ntmps27
  go_wp2_with fail
  refine (HPA.out _).mono ?_
  rintro e w1 ⟨rfl, hf⟩
  have HF := Lib.hid hf; clear hf
  clear c0 HPA
  cases hp : told x.data.toList with
  | none =>
    rw [hp] at HOWN
    clear hp
    simp only [Option.getD_none, Option.isSome_none, pfA]
    go_wp2_with fail
    refine (HNU.out _ (HF.out.alloc _)).mono ?_
    rintro e w2 ⟨hf2, h2⟩
    have hF2 := (HF.out.alloc _).trans hf2
    clear hf2
    have HF2 := Lib.hid hF2; clear hF2
    rcases h2 with ⟨_, rfl⟩ | ⟨xs, nv, _, rfl, hnv⟩
    · go_wp2
      rw [HR.out]
      exact .inl ⟨HOWN.out, rfl, HF2.out⟩
    · go_wp2
      rw [HR.out]
      exact .inl ⟨HOWN.out, rfl, HF2.out⟩
  | some p =>
    rw [hp] at HOWN
    clear hp
    obtain ⟨pl, pb⟩ := p
    simp only [Option.getD_some, Option.isSome_some, pfA]
    go_upto_region 4 with fail
    refine wp_name fun wz hwz => ?_
    have d0 : wz.cell? ⟨w1.heap.size, 0, none⟩ = some (.int .i64 pl) := by rw [hwz]; simp
    have d1 : wz.cell? ⟨w1.heap.size, 1, none⟩ = some (.int .i64 pb) := by rw [hwz]; simp
    have hFz : Fr NoB w1 wz := by rw [hwz]; (repeat (first | exact Fr.refl _ _ | refine Fr.alloc ?_ _ | refine Fr.setNew ?_ (by omega) _ _ | refine Fr.drewN ?_ _ | refine Fr.drew ?_))
    clear hwz
    have hF := HF.out.trans hFz
    clear HF hFz
    generalize w1.heap.size = z at *
    have HF := Lib.hid hF; clear hF
    go_wp2_with fail
    refine (HNU.out _ HF.out).mono ?_
    rintro e w2 ⟨hf2, h2⟩
    have d0 := cell_fr' hf2 d0 (fun h => h)
    have d1 := cell_fr' hf2 d1 (fun h => h)
    have hF2 := HF.out.trans hf2
    clear hf2 HF HNU
    have HF2 := Lib.hid hF2; clear hF2
    cases hk : Dk.numOf y.data.toList with
    | none =>
      rw [hk] at HOWN
      rw [hk] at h2
      rcases h2 with ⟨_, rfl⟩ | ⟨xs, nv, e, _, _⟩
      · clear hk
        go_wp2
        rw [HR.out]
        exact .inl ⟨HOWN.out, rfl, HF2.out⟩
      · cases e
    | some kk =>
      rw [hk] at HOWN
      rw [hk] at h2
      rcases h2 with ⟨e, _⟩ | ⟨xs, nv, e, rfl, hnv⟩
      · cases e
      · cases e
        clear hk
        obtain ⟨al, cn, rfl, hj⟩ := ownsRow_rd hnv
        clear hj
        obtain ⟨g, rfl, cg⟩ := Sl.at hnv (k := 0) (by simp)
        simp only [List.getD_cons_zero, List.length_cons, List.length_nil] at cg ⊢
        clear hnv
        have h2 := (DkS.start H.out).keep HF2.out
        clear H HF2
        have d0a : (w2.alloc (.cells #[.int .i64 0, .int .i64 0, .int .i64 0, .int .i64 0, .int .i64 0, .int .i64 0] 93)).cell? ⟨z, 0, none⟩ = some (.int .i64 pl) := cell_fr' ((Fr.refl NoB w2).alloc _) d0 (fun h => h)
        have d1a : (w2.alloc (.cells #[.int .i64 0, .int .i64 0, .int .i64 0, .int .i64 0, .int .i64 0, .int .i64 0] 93)).cell? ⟨z, 1, none⟩ = some (.int .i64 pb) := cell_fr' ((Fr.refl NoB w2).alloc _) d1 (fun h => h)
        have cga : (w2.alloc (.cells #[.int .i64 0, .int .i64 0, .int .i64 0, .int .i64 0, .int .i64 0, .int .i64 0] 93)).cell? ⟨g, 0, none⟩ = some (.int .i64 kk) := cell_fr' ((Fr.refl NoB w2).alloc _) cg (fun h => h)
        have hzl : z < w2.heap.size := World.block_lt_of_cell? w2 _ d0
        have hgl : g < w2.heap.size := World.block_lt_of_cell? w2 _ cg
        have hz1 : ¬ z = w2.heap.size := by omega
        have hg1 : ¬ g = w2.heap.size := by omega
        have H2 := Lib.hid h2; clear h2
        clear hz1 hg1 hzl hgl d0a d1a cga
        go_upto_region 6 with fail
        go_region_held3 (fun W => W.cell? ⟨g, 0, none⟩ = some (.int .i64 kk) ∧ W.cell? ⟨z, 0, none⟩ = some (.int .i64 pl) ∧ W.cell? ⟨z, 1, none⟩ = some (.int .i64 pb))
          (first | exact ⟨cg, d0, d1⟩ | exact ⟨cell_fr' (S := NoB) (by (repeat (first | exact Fr.refl _ _ | refine Fr.alloc ?_ _ | refine Fr.setNew ?_ (by omega) _ _ | refine Fr.drewN ?_ _ | refine Fr.drew ?_))) cg (fun h => h), cell_fr' (S := NoB) (by (repeat (first | exact Fr.refl _ _ | refine Fr.alloc ?_ _ | refine Fr.setNew ?_ (by omega) _ _ | refine Fr.drewN ?_ _ | refine Fr.drew ?_))) d0 (fun h => h), cell_fr' (S := NoB) (by (repeat (first | exact Fr.refl _ _ | refine Fr.alloc ?_ _ | refine Fr.setNew ?_ (by omega) _ _ | refine Fr.drewN ?_ _ | refine Fr.drew ?_))) d1 (fun h => h)⟩)
          (first | (fail))
        go_upto_region 9 with fail
        refine wp_name fun w5 hw5 => ?_
        have x0 : w5.cell? ⟨w2.heap.size, 0, none⟩ = some (.int .i64 7) := by rw [hw5]; simp
        have x1 : w5.cell? ⟨w2.heap.size, 1, none⟩ = some (.int .i64 kk) := by rw [hw5]; simp
        have x2 : w5.cell? ⟨w2.heap.size, 2, none⟩ = some (.int .i64 0) := by rw [hw5]; simp
        have x3 : w5.cell? ⟨w2.heap.size, 3, none⟩ = some (.int .i64 1) := by rw [hw5]; simp
        have x4 : w5.cell? ⟨w2.heap.size, 4, none⟩ = some (.int .i64 pl) := by rw [hw5]; simp
        have x5 : w5.cell? ⟨w2.heap.size, 5, none⟩ = some (.int .i64 pb) := by rw [hw5]; simp
        have hF5 : Fr NoB w2 w5 := by rw [hw5]; (repeat (first | exact Fr.refl _ _ | refine Fr.alloc ?_ _ | refine Fr.setNew ?_ (by omega) _ _ | refine Fr.drewN ?_ _ | refine Fr.drew ?_))
        clear hw5
        have h5 := H2.out.keep hF5
        clear hF5 H2 cg d0 d1
        generalize w2.heap.size = z5 at *
        have hdo := HDO.out ad bv v tv w5 ⟨pl, pb⟩ kk h5.at_
        unfold step6 at hdo
        dsimp only at hdo
        have H5 := Lib.hid h5; clear h5; have HD := Lib.hid hdo; clear hdo
        clear HDO
        go_wp2_with fail
        refine HD.out.mono ?_
        rintro e w6 ⟨ad6, bv6, v6, tv6, rfl, h6⟩
        have h7 := H5.out.go h6
        clear h6 HD
        have H7 := Lib.hid h7; clear h7
        go_wp2
        rw [HR.out]
        exact AskPost.done HOWN.out H7.out
end Go.Proofs.YtffoilacaffdgaaGreatDoor
