/- The walk of NetLost. -/
import Derived.Test.YtdpgbgapelgomaaNt7
namespace Go.Proofs.Ytdpgbgapelgomaa
open Go.RowKit Go.Deep

structure Two (w : World) (x y : Ids) (v u : Value) (t s : Nt.NT) (wr : World) : Prop where
  n : NtR w x v t wr
  m : NtR w y u s wr
  ap : ∀ i, Ft x v i → ¬ Ft y u i
theorem Two.n_step {w wr wx : World} {x y : Ids} {v v' u : Value} {t t' s : Nt.NT} (h : Two w x y v u t s wr) (ha : NtAt wx x v' t') (hf : Fr (Ft x v) wr wx) (hg : ∀ g, v'.ownBlock = some g → v.ownBlock = some g ∨ wr.heap.size ≤ g) : Two w x y v' u t' s wx :=
  ⟨h.n.step ha hf hg, ⟨h.m.at_.keep hf (fun i hi h' => h.ap i h' hi), (h.n.step ha hf hg).f, h.m.new⟩, Ft.apart h.m.at_ h.ap hg⟩
theorem Two.m_step {w wr wx : World} {x y : Ids} {v u u' : Value} {t s s' : Nt.NT} (h : Two w x y v u t s wr) (ha : NtAt wx y u' s') (hf : Fr (Ft y u) wr wx) (hg : ∀ g, u'.ownBlock = some g → u.ownBlock = some g ∨ wr.heap.size ≤ g) : Two w x y v u' t s' wx :=
  ⟨⟨h.n.at_.keep hf (fun i hi h' => h.ap i hi h'), (h.m.step ha hf hg).f, h.n.new⟩, h.m.step ha hf hg, fun i hi hy => (Ft.apart h.n.at_ (fun i h1 h2 => h.ap i h2 h1) hg) i hy hi⟩
theorem Two.keep {w wr wx : World} {x y : Ids} {v u : Value} {t s : Nt.NT} (h : Two w x y v u t s wr) (hf : Fr NoB wr wx) : Two w x y v u t s wx := ⟨h.n.keep hf, h.m.keep hf, h.ap⟩
theorem Two.drew {w wr : World} {x y : Ids} {v u : Value} {t s : Nt.NT} (h : Two w x y v u t s wr) : Two w x y v u t s wr.drew := h.keep (Fr.refl _ _).drew
def LostRel (X : Nat → Int) (n : Nat) (w : World) (x y : Ids) (g : Nat) (i : Value) (wr : World) : Prop :=
  ∃ (k : Nat) (v u : Value), k ≤ n ∧ g = n - k ∧ i = .int .i64 k ∧ Two w x y v u (Nt.runT X k) (Nt.runT X k) wr
def LostIn (t : Nt.NT) (w : World) (x y : Ids) (u : Value) (g : Nat) (i : Value) (wr : World) : Prop :=
  ∃ (v : Value) (l : List Nt.Nw), i = i ∧ g = l.length ∧ l.length ≤ 6 ∧ (∃ m, m ≤ 500 ∧ Nt.NOk { t with news := t.news ++ l } m) ∧ Two w x y v u { t with news := t.news ++ l } t wr
def LostEnd (t : Nt.NT) (w : World) (x y : Ids) (v u : Value) (g : Nat) (i : Value) (wr : World) : Prop :=
  ∃ k : Nat, k ≤ 6 ∧ g = 6 - k ∧ i = .int .i64 k ∧ Two w x y v u t t wr
theorem Nt.tellT_no {t : Nt.NT} {a b : Int} (h : (Nt.tellT t a b).2 ≠ 0) : (Nt.tellT t a b).1 = t := by
  unfold Nt.tellT at *
  split
  · rfl
  · rename_i h1
    rw [if_neg h1] at h
    split
    · rfl
    · rename_i h2
      rw [if_neg h2] at h
      split
      · rfl
      · rename_i h3
        rw [if_neg h3] at h
        exact absurd rfl h
theorem Nt.tellT_ok {t : Nt.NT} {a b : Int} (h : (Nt.tellT t a b).2 = 0) : ∃ l : List Nt.Nw, l.length = 6 ∧ (Nt.tellT t a b).1 = { t with news := t.news ++ l } := by
  unfold Nt.tellT at *
  split
  · rename_i h1; rw [if_pos h1] at h; cases h
  · rename_i h1
    rw [if_neg h1] at h
    split
    · rename_i h2; rw [if_pos h2] at h; cases h
    · rename_i h2
      rw [if_neg h2] at h
      split
      · rename_i h3; rw [if_pos h3] at h; cases h
      · exact ⟨_, Nt.tellW_len _ _ _, rfl⟩

set_option maxRecDepth 100000 in
set_option maxHeartbeats 8000000 in
theorem NetLost_main (a0 : Option Addr) (n c : Nat) (X : Nat → Int) (pa pb : Int) (w : World) (hn : n ≤ 150) (hX : Rd w a0 (n * 6) X) :
    Calls Try.prog 10 #[.slice a0 n c, .int .i64 pa, .int .i64 pb] w (TrueFr w) := by
  have HX := Lib.hid hX; clear hX
  go_enter Try.func10, Try.ntmps10
  go_wp2_with fail
  refine (netBegun_true _).mono ?_
  rintro e w1 ⟨rfl, hF⟩
  have HF := Lib.hid hF; clear hF
  go_wp2_with fail
  refine (NewNt _).mono ?_
  rintro e w2 ⟨x, v, rfl, hn1, hf, hnew⟩
  have hz := HF.out.size
  have h1 : NtR w x v Nt.begun w2 := ⟨hn1, HF.out.trans hf, fun i hi => by have := hnew i hi; omega⟩
  clear hn1 hf hnew HF hz
  have H1 := Lib.hid h1; clear h1
  go_wp2_with fail
  refine (NewNt _).mono ?_
  rintro e w3 ⟨y, u, rfl, hn2, hf, hnew⟩
  have hz := H1.out.f.size
  have h2 : Two w x y v u Nt.begun Nt.begun w3 := ⟨H1.out.keep hf, ⟨hn2, H1.out.f.trans hf, fun i hi => by have := hnew i hi; omega⟩, fun i h1 h2 => by have := H1.out.at_.lt h1; have := hnew i h2; omega⟩
  clear hn2 hf hnew H1 hz
  have H2 := Lib.hid h2; clear h2
  go_wp2
  go_loopg [9] n (fun g i wr => LostRel X n w x y g i wr)
  case atStart => exact ⟨0, _, _, by omega, by omega, rfl, H2.out⟩
  case round =>
    clear H2
    obtain ⟨k, v, u, hk, hgk, rfl, h2⟩ := hrel
    have HG := Lib.hid hgk; clear hgk
    have H2 := Lib.hid h2; clear h2
    have HR := Lib.hid (Nt.runT_ok X k)
    by_cases hkn : k < n
    · have hkb : decide ((k : Int) < (n : Int)) = true := by simp; omega
      obtain ⟨b0, o0, rfl, c0⟩ := HX.out (k * 6) (by omega)
      obtain ⟨b1, o1, e1, c1⟩ := HX.out (k * 6 + 1) (by omega)
      obtain ⟨b2, o2, e2, c2⟩ := HX.out (k * 6 + 2) (by omega)
      obtain ⟨b3, o3, e3, c3⟩ := HX.out (k * 6 + 3) (by omega)
      obtain ⟨b4, o4, e4, c4⟩ := HX.out (k * 6 + 4) (by omega)
      obtain ⟨b5, o5, e5, c5⟩ := HX.out (k * 6 + 5) (by omega)
      cases e1; cases e2; cases e3; cases e4; cases e5
      have hst : Nt.runT X (k + 1) = (Nt.doT (Nt.runT X k) (X (k * 6)) (X (k * 6 + 1)) (X (k * 6 + 2)) (X (k * 6 + 3))).1 := rfl
      have hok := Nt.runT_ok X (k + 1)
      generalize X (k * 6) = x0 at *
      generalize X (k * 6 + 1) = x1 at *
      generalize X (k * 6 + 2) = x2 at *
      generalize X (k * 6 + 3) = x3 at *
      generalize X (k * 6 + 4) = x4 at *
      generalize X (k * 6 + 5) = x5 at *
      have hb0 : b0 < w.heap.size := World.block_lt_of_cell? w _ c0
      have c0 := cell_fr H2.out.n.f c0 (fun h => h)
      have c1 := cell_fr H2.out.n.f c1 (fun h => h)
      have c2 := cell_fr H2.out.n.f c2 (fun h => h)
      have c3 := cell_fr H2.out.n.f c3 (fun h => h)
      have c4 := cell_fr H2.out.n.f c4 (fun h => h)
      have c5 := cell_fr H2.out.n.f c5 (fun h => h)
      rw [← Nat.add_assoc] at c1 c2 c3 c4 c5
      have HST := Lib.hid hst; clear hst; have HOK := Lib.hid hok; clear hok; have HB0 := Lib.hid hb0; clear hb0
      go_wp2_with fail
      go_region_held3 (fun W => W.cell? ⟨b0, o0 + k * 6, none⟩ = some (.int .i64 x0) ∧ W.cell? ⟨b0, o0 + k * 6 + 1, none⟩ = some (.int .i64 x1) ∧ W.cell? ⟨b0, o0 + k * 6 + 2, none⟩ = some (.int .i64 x2) ∧ W.cell? ⟨b0, o0 + k * 6 + 3, none⟩ = some (.int .i64 x3) ∧ W.cell? ⟨b0, o0 + k * 6 + 4, none⟩ = some (.int .i64 x4) ∧ W.cell? ⟨b0, o0 + k * 6 + 5, none⟩ = some (.int .i64 x5))
        (first | exact ⟨c0, c1, c2, c3, c4, c5⟩ | exact ⟨s0, s1, s2, s3, s4, s5⟩ | exact ⟨t0, t1, t2, t3, t4, t5⟩)
        (first | (go_at_call 45; have hh := H4.out; clear hh; refine (Do_any y u _ x0 x1 x2 x3 x4 x5 k _ HR.out (by omega) (by exact H4.out.m.at_)).mono ?_; rintro e w5 ⟨u4, rfl, ha, hf, hg⟩; have hno : ∀ (a : Addr), a.block = b0 → ¬ Ft y u a.block := (fun a e h => by have := H4.out.m.new _ h; have := HB0.out; omega); have h5 := H4.out.m_step ha hf hg; have t0 := cell_fr hf s0 (hno _ rfl); have t1 := cell_fr hf s1 (hno _ rfl); have t2 := cell_fr hf s2 (hno _ rfl); have t3 := cell_fr hf s3 (hno _ rfl); have t4 := cell_fr hf s4 (hno _ rfl); have t5 := cell_fr hf s5 (hno _ rfl); clear ha hf hg hno; have H5 := Lib.hid h5; clear h5) | (go_at_call 45; refine (Do_any x v _ x0 x1 x2 x3 x4 x5 k _ HR.out (by omega) (by exact H2.out.drew.n.at_)).mono ?_; rintro e w4 ⟨v4, rfl, ha, hf, hg⟩; have hno : ∀ (a : Addr), a.block = b0 → ¬ Ft x v a.block := (fun a e h => by have := H2.out.n.new _ h; have := HB0.out; omega); have h4 := H2.out.drew.n_step ha hf hg; have s0 := cell_fr hf c0 (hno _ rfl); have s1 := cell_fr hf c1 (hno _ rfl); have s2 := cell_fr hf c2 (hno _ rfl); have s3 := cell_fr hf c3 (hno _ rfl); have s4 := cell_fr hf c4 (hno _ rfl); have s5 := cell_fr hf c5 (hno _ rfl); clear ha hf hg hno; have H4 := Lib.hid h4; clear h4))
      have h5 : Two w x y v4 u4 (Nt.runT X (k + 1)) (Nt.runT X (k + 1)) w5 := by rw [HST.out]; exact H5.out
      generalize hsk : Nt.runT X (k + 1) = t at *
      have HSK := Lib.hid hsk; clear hsk
      clear H4 H5 H2 HR HST c0 c1 c2 c3 c4 c5 s0 s1 s2 s3 s4 s5 t0 t1 t2 t3 t4 t5
      generalize (Nt.doT (Nt.runT X k) x0 x1 x2 x3).2 = cc at *
      have H := Lib.hid h5; clear h5
      go_wp2_with fail
      refine (News_any x v4 t _ (by have := HOK.out.len; omega) H.out.n.at_).mono ?_
      rintro e w6 ⟨nv, rfl, hv, hf⟩
      have h6 := H.out.keep hf
      obtain ⟨na, nc, rfl, j⟩ := ownsRow_rd hv
      clear H hv hf j
      have H := Lib.hid h6; clear h6
      go_wp2_with fail
      refine (Do_any x v4 t 3 pa pb 0 0 0 (k + 1) _ HOK.out (by omega) H.out.n.at_).mono ?_
      rintro e w7 ⟨v7, rfl, ha, hf, hg⟩
      have h7 := H.out.n_step ha hf hg
      have e3 : Nt.doT t 3 pa pb 0 = Nt.tellT t pa pb := rfl
      rw [e3] at h7 ⊢
      clear H ha hf hg e3
      by_cases hc : (Nt.tellT t pa pb).2 = 0
      · obtain ⟨l, hl, he⟩ := Nt.tellT_ok hc
        have hok2 := HOK.out.tellT pa pb
        rw [hc]
        rw [he] at h7 hok2
        clear hc he
        have H := Lib.hid h7; clear h7; have HO2 := Lib.hid hok2; clear hok2; have HL := Lib.hid hl; clear hl
        have hlen0 := HOK.out.len
        have HLN := Lib.hid hlen0; clear hlen0
        go_wp2
        go_loopg [48] 6 (fun g i wr => LostIn t w x y u4 g i wr)
        case atStart => exact ⟨_, l, rfl, HL.out.symm, by have := HL.out; omega, ⟨k + 1, by omega, HO2.out⟩, H.out⟩
        case round =>
          clear H HO2 HL
          obtain ⟨v8, l, _, hgl, hl6, ⟨m, hm, hok⟩, h8⟩ := hrel
          have HGL := Lib.hid hgl; clear hgl; have HO2 := Lib.hid hok; clear hok; have H := Lib.hid h8; clear h8; have HL6 := Lib.hid hl6; clear hl6
          cases l with
          | nil =>
            have hd : decide ((t.news.length : Int) < ((t.news ++ ([] : List Nt.Nw)).length : Int)) = false := by simp
            go_wp2_with fail
            refine (News_any x v8 _ _ (by have := HO2.out.len; omega) H.out.n.at_).mono ?_
            rintro e w8 ⟨nv, rfl, hv, hf⟩
            have h9 := H.out.keep hf
            obtain ⟨nb, nd, rfl, j⟩ := ownsRow_rd hv
            clear H hv hf j
            have h9 : Two w x y v8 u4 (Nt.runT X (k + 1)) (Nt.runT X (k + 1)) w8 := by
              rw [HSK.out]
              simpa using h9
            have H := Lib.hid h9; clear h9
            dsimp only
            go_wp2
            go_roundg (n - (k + 1))
            case rel => exact ⟨k + 1, v8, u4, by omega, rfl, by go_num, H.out⟩
            case measure => have := HG.out; omega
          | cons z l =>
            have hd : decide ((t.news.length : Int) < ((t.news ++ (z :: l)).length : Int)) = true := by simp; omega
            go_wp2_with fail
            refine (News_any x v8 _ _ (by have := HO2.out.len; omega) H.out.n.at_).mono ?_
            rintro e w8 ⟨nv, rfl, hv, hf⟩
            have h9 := H.out.keep hf
            obtain ⟨nb, nd, rfl, j⟩ := ownsRow_rd hv
            clear H hv hf j
            have H := Lib.hid h9; clear h9
            dsimp only
            go_wp2_with fail
            refine (Do_any x v8 _ 5 0 0 t.news.length 0 0 m _ HO2.out (by omega) H.out.n.at_).mono ?_
            rintro e w9 ⟨v9, rfl, ha, hf, hg⟩
            have h10 := H.out.n_step ha hf hg
            have e5 : Nt.doT { t with news := t.news ++ (z :: l) } 5 0 0 t.news.length = ({ t with news := t.news ++ l }, 0) := by
              show Nt.loseT _ _ = _
              rw [Nt.loseT, if_neg (by unfold Nt.out; simp; omega), Int.toNat_natCast, Nt.lost_app]
            have hok3 := HO2.out.lost t.news.length
            rw [Nt.lost_app] at hok3
            rw [e5] at h10 ⊢
            clear H ha hf hg e5 HO2 hd
            have H := Lib.hid h10; clear h10; have HO2 := Lib.hid hok3; clear hok3
            go_wp2
            go_roundg l.length
            case rel => exact ⟨v9, l, rfl, rfl, by have := HL6.out; simp at this; omega, ⟨m, hm, HO2.out⟩, H.out⟩
            case measure => have := HGL.out; simp at this; omega
      · have hcb : ((Nt.tellT t pa pb).2 != 0) = true := by simp [hc]
        rw [Nt.tellT_no hc] at h7
        have h7 : Two w x y v7 u4 (Nt.runT X (k + 1)) (Nt.runT X (k + 1)) w7 := by rw [HSK.out]; exact h7
        clear hc
        have H := Lib.hid h7; clear h7
        go_wp2
        go_roundg (n - (k + 1))
        case rel => exact ⟨k + 1, v7, u4, by omega, rfl, by go_num, H.out⟩
        case measure => have := HG.out; omega
    · generalize hsk : Nt.runT X k = t at *
      have hkb : decide ((k : Int) < (n : Int)) = false := by simp; omega
      clear hsk HG
      go_wp2
      go_loopg [11] 6 (fun g i wr => LostEnd t w x y v u g i wr)
      case atStart => exact ⟨0, by omega, by omega, rfl, H2.out⟩
      case round =>
        clear H2 hkb
        obtain ⟨p, hp, hgp, rfl, h2⟩ := hrel
        have HGP := Lib.hid hgp; clear hgp
        have H := Lib.hid h2; clear h2
        by_cases hp6 : p < 6
        · have hpb : decide ((p : Int) < 6) = true := by simp; omega
          go_wp2
          go_loopg [12] 6 (fun g i wr => LostEnd t w x y v u g i wr)
          case atStart => exact ⟨0, by omega, by omega, rfl, H.out⟩
          case round =>
            clear H
            obtain ⟨q, hq, hgq, rfl, h2⟩ := hrel
            have HGQ := Lib.hid hgq; clear hgq
            have H := Lib.hid h2; clear h2
            by_cases hq6 : q < 6
            · go_wp2_with fail
              refine (NWay_in x v t p q _ hp6 hq6 H.out.n.at_).mono ?_
              rintro e w8 ⟨rfl, hf⟩
              have h8 := H.out.keep hf
              clear H hf
              have H := Lib.hid h8; clear h8
              go_wp2_with fail
              refine (NWay_in y u t p q _ hp6 hq6 H.out.m.at_).mono ?_
              rintro e w9 ⟨rfl, hf⟩
              have h8 := H.out.keep hf
              clear H hf
              have H := Lib.hid h8; clear h8
              go_wp2
              go_roundg (6 - (q + 1))
              case rel => exact ⟨q + 1, by omega, rfl, by go_num, H.out⟩
              case measure => have := HGQ.out; omega
            · obtain rfl : q = 6 := by omega
              go_wp2
              go_roundg (6 - (p + 1))
              case rel => exact ⟨p + 1, by omega, rfl, by go_num, H.out⟩
              case measure => have := HGP.out; omega
        · obtain rfl : p = 6 := by omega
          go_wp2_with fail
          refine (News_any x v t _ (by have := HR.out.len; omega) H.out.n.at_).mono ?_
          rintro e w8 ⟨nv, rfl, hv, hf⟩
          have h8 := H.out.keep hf
          obtain ⟨na, nc, rfl, hr1, j⟩ := ownsRow_rd hv
          clear H hv hf j
          have H := Lib.hid h8; clear h8; have HR1 := Lib.hid hr1; clear hr1
          go_wp2_with fail
          refine (News_any y u t _ (by have := HR.out.len; omega) H.out.m.at_).mono ?_
          rintro e w9 ⟨nv, rfl, hv, hf⟩
          have h8 := H.out.keep hf
          have hr1 := Rd.keep HR1.out hf (fun _ _ h => h)
          obtain ⟨nb, nd, rfl, hr2, j⟩ := ownsRow_rd hv
          clear H hv hf j HR1
          have H := Lib.hid h8; clear h8; have HR1 := Lib.hid hr1; clear hr1; have HR2 := Lib.hid hr2; clear hr2
          go_wp2_with fail
          refine (SameNews_fr na nb t.news.length nc nd _ _ (by have := HR.out.len; omega) HR1.out HR2.out).mono ?_
          rintro e w10 ⟨rfl, hf⟩
          have h8 := H.out.keep hf
          clear H hf
          have H := Lib.hid h8; clear h8
          go_wp2
          go_ret
          exact ⟨rfl, H.out.n.f⟩

set_option maxRecDepth 100000 in
set_option maxHeartbeats 2000000 in
theorem NetLost_all (a0 : Option Addr) (n0 c0 : Nat) (X0 : Nat → Int) (a1 a2 : Int) (w : World) (r0 : Rd w a0 (n0 * 6) X0) :
    Calls Try.prog 10 #[.slice a0 n0 c0, .int .i64 a1, .int .i64 a2] w (TrueFr w) := by
  by_cases hn : n0 ≤ 150
  · exact NetLost_main a0 n0 c0 X0 a1 a2 w hn r0
  · clear r0
    go_enter Try.func10, Try.ntmps10
    go_wp2_with fail
    refine (netBegun_true _).mono ?_
    rintro e w1 ⟨rfl, hF⟩
    have HF := Lib.hid hF; clear hF
    go_wp2
    go_ret
    exact ⟨rfl, HF.out⟩
end Go.Proofs.Ytdpgbgapelgomaa
