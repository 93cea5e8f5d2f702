/- The walk of WalkHome. -/
import Derived.Test.YteedndapbfihaaaGreatB40
import Derived.Test.YteedndapbfihaaaGreatB3
namespace Go.Proofs.YteedndapbfihaaaGreat
open Go.RowKit Go.Deep

set_option maxRecDepth 100000 in
set_option maxHeartbeats 8000000 in
theorem WalkHome_main (a0 : Option Addr) (n0 c0 : Nat) (X0 : Nat → Int) (k : Nat) (x : Int) (w : World) (hn0 : n0 ≤ 150) (hk : k < 6) (r0 : Rd w a0 (n0 * 6) X0) :
    Calls Tryz.prog 11 #[.slice a0 n0 c0, .int .i64 k, .int .i64 x] w (TrueFr w) := by
  have hnb : decide ((150 : Int) < (n0 : Int)) = false := by simp; omega
  have R0 := Lib.hid r0; clear r0
  go_enter Tryz.func11, Tryz.ntmps11
  go_wp2_with fail
  refine (walkBegun_true _).mono ?_
  rintro e w1 ⟨rfl, hf1⟩
  have HF1 := Lib.hid hf1; clear hf1
  go_wp2_with fail
  refine (RNode_yes _ _ (by omega) (by omega)).mono ?_; rintro e w' ⟨rfl, rfl⟩
  go_wp2_with fail
  refine (posts_any a0 n0 c0 X0 _ (by omega) (Rd.keep R0.out HF1.out (fun _ _ h => h))).mono ?_
  rintro e w2 ⟨q, v, tv, y, u, al, rfl, h2⟩
  have hok := Fb.POk.runF Fb.POk.begun X0 n0
  have h3 : PR w q v tv (Fb.runF Fb.begunP X0 n0) w2 := ⟨h2.p.at_, HF1.out.trans h2.p.f, fun i hi => Nat.le_trans HF1.out.size (h2.p.new i hi)⟩
  clear h2 HF1 R0
  generalize Fb.runF Fb.begunP X0 n0 = S at *
  have p0 := h3.at_.p0
  have HOK := Lib.hid hok; clear hok; have H := Lib.hid h3; clear h3
  go_wp2_with fail
  refine (Settle_any q.x v S.t 14 (0 + n0) _ (by omega) HOK.out.str.ok (by omega) H.out.at_.net).mono ?_
  rintro e w3 ⟨rfl, hsg⟩
  have H3 := Lib.hid (SettlePk H.out hsg.at_ hsg.f)
  have hs3 := Wk.settle_str HOK.out.str 14
  have hC3 := Nt.settleT_C S.t 14
  have hhome := fun (dst : Nat) (hd : dst < 6) (l : List Int) (e : Int) htr => Wk.trp_home (l := l) (e := e) HOK.out.str hk hd htr
  have hCok := HOK.out.str.ok.cost
  have hoo := HOK.out.o
  clear hsg H p0 HOK
  obtain ⟨St, oo⟩ := S
  dsimp only at hs3 hC3 hhome hCok hoo H3
  generalize Nt.settleT St 14 = t3 at *
  have hok3 : Fb.POk ⟨t3, oo⟩ (0 + n0 + 6) := ⟨hs3, hoo⟩
  clear hs3 hoo
  have HOK := Lib.hid hok3; clear hok3; have HHOME := Lib.hid hhome; clear hhome; have HC3 := Lib.hid hC3; clear hC3; have HCOK := Lib.hid hCok; clear hCok
  go_wp2_with fail
  refine (NewW true q (.slice none 0 0) tv ⟨t3, oo⟩ _ _ HOK.out H3.out.at_).mono ?_
  rintro e w4 ⟨b1, T1, V1, rfl, hw, hf, _⟩
  have H4 := Lib.hid (H3.out.keep hf)
  have HW := Lib.hid hw
  clear H3 hf hw
  obtain ⟨l, e0, htr⟩ := Wk.wy_any HOK.out.str hk (Fb.owner_cases HOK.out.o x)
  have hg1 := WGo_tab HOK.out HOK.out k x w4 HW.out H4.out.at_
  have how := fun W (h : PAt W q (.slice none 0 0) tv ⟨t3, oo⟩) => Owner_any q (.slice none 0 0) tv ⟨t3, oo⟩ x W HOK.out.o.len h
  have hoc := Fb.owner_cases HOK.out.o x
  dsimp only at htr hg1 how hoc
  rw [htr.eq t3.C] at hg1
  have hlen := htr.len
  generalize Tb.look oo x = O at *
  have HG1 := Lib.hid hg1; clear hg1; have HOW := Lib.hid how; clear how; have HTR := Lib.hid htr; clear htr; have HOC := Lib.hid hoc; clear hoc
  go_wp2_with fail
  refine HG1.out.mono ?_
  rintro e1 w5 ⟨nv, rfl, hsl, hf⟩
  obtain ⟨al5, nc5, rfl, hr5, jj⟩ := hsl.rd
  have H5 := Lib.hid (H4.out.keep hf)
  clear H4 HW HG1 hf hsl jj hr5
  dsimp only
  go_upto_region 8 with fail
  refine wp_name fun w7 hw7 => ?_
  have d0 : w7.cell? ⟨w5.heap.size, 0, none⟩ = some (.slice al5 l.length nc5) := by rw [hw7]; simp
  have d1 : w7.cell? ⟨w5.heap.size, 1, none⟩ = some (.int .i64 (Wk.csum t3.C l)) := by rw [hw7]; simp
  have d2 : w7.cell? ⟨w5.heap.size, 2, none⟩ = some (.int .i64 e0) := by rw [hw7]; simp
  have hF : Fr NoB w5 w7 := by rw [hw7]; (repeat (first | exact Fr.refl _ _ | refine Fr.alloc ?_ _ | refine Fr.setNew ?_ (by omega) _ _ | refine Fr.drewN ?_ _ | refine Fr.drew ?_))
  clear hw7
  have H7 := Lib.hid (H5.out.keep hF)
  clear H5 hF
  generalize w5.heap.size = z at *
  go_wp2_with fail
  refine (HOW.out _ H7.out.at_).mono ?_
  rintro e1 w8 ⟨rfl, hf⟩
  have d0 := cell_fr' hf d0 (fun h => h)
  have d1 := cell_fr' hf d1 (fun h => h)
  have d2 := cell_fr' hf d2 (fun h => h)
  have H8 := Lib.hid (H7.out.keep hf)
  clear H7 hf HOW
  rcases HOC.out with rfl | hN
  · obtain ⟨rfl, rfl⟩ := Wk.trp_none hk HTR.out
    have hl1 : ([(k : Int)] : List Int).length = 1 := rfl
    rw [hl1] at d0
    go_wp2
    go_ret
    exact ⟨rfl, H8.out.f⟩
  · obtain ⟨n1, n2⟩ := hN
    obtain ⟨dst, rfl⟩ := Int.eq_ofNat_of_zero_le n1
    have hd : dst < 6 := by omega
    obtain ⟨hh1, hh2⟩ := HHOME.out dst hd l e0 HTR.out
    have hob : ((dst : Int) == -1) = false := by simp
    have p0 := H8.out.at_.p0
    have nn0 := H8.out.at_.net.c0
    have hix := index6 dst hd (Lk.far St.C k)
    have hlk : CAt w8 q.x.L 108 St.C := by
      have := H8.out.at_.net.links
      dsimp only at this
      rw [HC3.out] at this
      exact this
    have hcs : Lk.far St.C k dst ≠ 200 → Wk.csum t3.C l = Lk.far St.C k dst := fun h => by rw [HC3.out]; exact (hh2 h).2
    have hc2 : Lk.far St.C k dst ≠ 200 → e0 = dst := fun h => (hh2 h).1
    clear hh2
    generalize Wk.csum t3.C l = co at *
    have HH1 := Lib.hid hh1; clear hh1; have HCS := Lib.hid hcs; clear hcs; have HC2 := Lib.hid hc2; clear hc2; have HLK := Lib.hid hlk; clear hlk
    clear n1 n2
    go_wp2_with fail
    refine (RNode_yes _ _ (by omega) (by omega)).mono ?_; rintro e w' ⟨rfl, rfl⟩
    go_wp2_with fail
    refine (Lfar q.x.L k St.C _ HLK.out HCOK.out).mono ?_
    rintro e1 w9 ⟨rfl, hf⟩
    have d0 := cell_fr' hf d0 (fun h => h)
    have d1 := cell_fr' hf d1 (fun h => h)
    have d2 := cell_fr' hf d2 (fun h => h)
    have H9 := Lib.hid (H8.out.f.trans hf)
    clear H8 hf HLK p0 nn0
    by_cases h200 : Lk.far St.C k dst = 200
    · have hb2 : (Lk.far St.C k dst == 200) = true := by simpa using h200
      have he := HH1.out h200
      subst he
      clear h200
      go_wp2
      go_ret
      exact ⟨rfl, H9.out⟩
    · have hb2 : (Lk.far St.C k dst == 200) = false := by simpa using h200
      have he := HC2.out h200
      have hc := HCS.out h200
      subst he
      have hb3 : ((dst : Int) == (dst : Int)) = true := by simp
      have hb4 : (co == Lk.far St.C k dst) = true := by simpa using hc
      clear h200 hc
      go_wp2
      go_ret
      exact ⟨rfl, H9.out⟩
set_option maxRecDepth 100000 in
set_option maxHeartbeats 2000000 in
theorem WalkHome_all (a0 : Option Addr) (n0 c0 : Nat) (X0 : Nat → Int) (a1 a2 : Int) (w : World) (r0 : Rd w a0 (n0 * 6) X0) :
    Calls Tryz.prog 11 #[.slice a0 n0 c0, .int .i64 a1, .int .i64 a2] w (TrueFr w) := by
  by_cases hn : n0 ≤ 150
  · by_cases hr : Nt.isN a1
    · obtain ⟨n, rfl⟩ := Int.eq_ofNat_of_zero_le hr.1
      exact WalkHome_main a0 n0 c0 X0 n a2 w hn (by have := hr.2; omega) r0
    · clear r0
      have hnb : decide ((150 : Int) < (n0 : Int)) = false := by simp; omega
      have HR := Lib.hid hr; clear hr
      go_enter Tryz.func11, Tryz.ntmps11
      go_wp2_with fail
      refine (walkBegun_true _).mono ?_
      rintro e w1 ⟨rfl, hF⟩
      have HF := Lib.hid hF; clear hF
      go_wp2_with fail
      refine (RNode_no _ _ HR.out).mono ?_; rintro e w' ⟨rfl, rfl⟩
      go_wp2
      go_ret
      exact ⟨rfl, HF.out⟩
  · clear r0
    have hnb : decide ((150 : Int) < (n0 : Int)) = true := by simp; omega
    go_enter Tryz.func11, Tryz.ntmps11
    go_wp2_with fail
    refine (walkBegun_true _).mono ?_
    rintro e w1 ⟨rfl, hF⟩
    have HF := Lib.hid hF; clear hF
    go_wp2
    go_ret
    exact ⟨rfl, HF.out⟩
end Go.Proofs.YteedndapbfihaaaGreat
