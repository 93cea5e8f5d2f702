/- The walk of WalkStraight. -/
import Derived.Test.YteedndapbfihaaaGreatB40
namespace Go.Proofs.YteedndapbfihaaaGreat
open Go.RowKit Go.Deep

structure PW2 (w : World) (q : PIds) (v tv : Value) (s : Fb.PT) (b1 b2 : Nat) (T1 T2 : Nat → Nat) (V1 V2 : Nat → Value) (wr : World) : Prop where
  p : PAt wr q v tv s
  k1 : WkAt wr b1 q.p T1 V1 (tabOf true s)
  k2 : WkAt wr b2 q.p T2 V2 (tabOf false s)
  f : Fr NoB w wr
theorem PW2.keep {w wr wx : World} {q : PIds} {v tv : Value} {s : Fb.PT} {b1 b2 : Nat} {T1 T2 : Nat → Nat} {V1 V2 : Nat → Value} (h : PW2 w q v tv s b1 b2 T1 T2 V1 V2 wr) (hf : Fr NoB wr wx) : PW2 w q v tv s b1 b2 T1 T2 V1 V2 wx := ⟨h.p.keep0 hf, h.k1.keep0 hf, h.k2.keep0 hf, h.f.trans hf⟩
def WsRel (w : World) (q : PIds) (v tv : Value) (s : Fb.PT) (b1 b2 : Nat) (T1 T2 : Nat → Nat) (V1 V2 : Nat → Value) (i : Value) (wr : World) : Prop :=
  ∃ k : Nat, k ≤ 6 ∧ i = .int .i64 k ∧ PW2 w q v tv s b1 b2 T1 T2 V1 V2 wr
set_option maxRecDepth 100000 in
set_option maxHeartbeats 8000000 in
theorem WalkStraight_main (a0 : Option Addr) (n0 c0 : Nat) (X0 : Nat → Int) (x : Int) (w : World) (hn0 : n0 ≤ 150) (r0 : Rd w a0 (n0 * 6) X0) :
    Calls Tryz.prog 10 #[.slice a0 n0 c0, .int .i64 x] w (TrueFr w) := by
  have hnb : decide ((150 : Int) < (n0 : Int)) = false := by simp; omega
  have R0 := Lib.hid r0; clear r0
  go_enter Tryz.func10, Tryz.ntmps10
  go_wp2_with fail
  refine (walkBegun_true _).mono ?_
  rintro e w1 ⟨rfl, hf1⟩
  have HF1 := Lib.hid hf1; clear hf1
  go_wp2_with fail
  refine (posts_any a0 n0 c0 X0 _ (by omega) (Rd.keep R0.out HF1.out (fun _ _ h => h))).mono ?_
  rintro e w2 ⟨q, v, tv, y, u, al, rfl, h2⟩
  have hok := Fb.POk.runF Fb.POk.begun X0 n0
  have h3 : PK w q v tv (Fb.runF Fb.begunP X0 n0) w2 := ⟨h2.p.at_, HF1.out.trans h2.p.f⟩
  clear h2 HF1 R0
  generalize Fb.runF Fb.begunP X0 n0 = S at *
  have HOK := Lib.hid hok; clear hok; have H := Lib.hid h3; clear h3
  go_wp2_with fail
  refine (NewW true q v tv S _ _ HOK.out H.out.at_).mono ?_
  rintro e w3 ⟨b1, T1, V1, rfl, hw, hf, _⟩
  have H3 := Lib.hid (H.out.keep hf)
  have HW := Lib.hid hw
  clear H hf hw
  go_wp2_with fail
  refine (NewW false q v tv S _ _ HOK.out H3.out.at_).mono ?_
  rintro e w4 ⟨b2, T2, V2, rfl, hw, hf, _⟩
  have h4 : PW2 w q v tv S b1 b2 T1 T2 V1 V2 w4 := ⟨H3.out.at_.keep0 hf, HW.out.keep0 hf, hw, H3.out.f.trans hf⟩
  clear H3 hf hw HW
  have H := Lib.hid h4; clear h4
  go_wp2
  go_loopw [10] (fun i wr => WsRel w q v tv S b1 b2 T1 T2 V1 V2 i wr) (fun i _ => 6 - (intOf i).toNat)
  case atStart => exact ⟨0, by omega, rfl, H.out⟩
  case round =>
    clear H
    obtain ⟨k, hk, rfl, h5⟩ := hrel
    have H := Lib.hid h5; clear h5
    by_cases hk6 : k < 6
    · have hkb : decide ((k : Int) < 6) = true := by simp; omega
      have hki : (k : Int) < 6 := by omega
      obtain ⟨l, e, htr⟩ := Wk.wy_any HOK.out.str hk6 (Fb.owner_cases HOK.out.o x)
      have hg1 := fun W (h : PW2 w q v tv S b1 b2 T1 T2 V1 V2 W) => WGo_tab HOK.out HOK.out k x W h.k1 h.p
      have hg2 := fun W (h : PW2 w q v tv S b1 b2 T1 T2 V1 V2 W) => WGo_tab HOK.out HOK.out k x W h.k2 h.p
      have how := fun W (h : PW2 w q v tv S b1 b2 T1 T2 V1 V2 W) => Owner_any q v tv S x W HOK.out.o.len h.p
      have hlen := htr.len
      have hfin := htr.fin
      rw [htr.eq S.t.C] at hg1 hg2
      clear htr
      generalize Tb.look S.o x = O at *
      generalize Wk.csum S.t.C l = co at *
      have hl6 : decide ((6 : Int) < (l.length : Int)) = false := by simp; omega
      have hcc : (co != co) = false := by simp
      have hee : (e != e) = false := by simp
      have HG1 := Lib.hid hg1; clear hg1; have HG2 := Lib.hid hg2; clear hg2; have HOW := Lib.hid how; clear how; have HLEN := Lib.hid hlen; clear hlen; have HFIN := Lib.hid hfin; clear hfin
      go_wp2_with fail
      refine (HG1.out _ H.out).mono ?_
      rintro e1 w5 ⟨nv, rfl, hsl, hf⟩
      obtain ⟨al5, nc5, rfl, hr5, jj⟩ := hsl.rd
      have H5 := Lib.hid (H.out.keep hf)
      clear H hf hsl jj HG1
      dsimp only
      have HR5 := Lib.hid hr5; clear hr5
      go_wp2_with fail
      refine (HG2.out _ H5.out).mono ?_
      rintro e1 w6 ⟨nv, rfl, hsl, hf⟩
      obtain ⟨al6, nc6, rfl, hr6, jj⟩ := hsl.rd
      have H6 := Lib.hid (H5.out.keep hf)
      have HR5' := Lib.hid (Rd.keep HR5.out hf (fun _ _ h => h))
      clear H5 HR5 hf hsl jj HG2
      dsimp only
      have HR6 := Lib.hid hr6; clear hr6
      go_upto_region 11 with fail
      refine wp_name fun w7 hw7 => ?_
      have d0 : w7.cell? ⟨w6.heap.size, 0, none⟩ = some (.slice al5 l.length nc5) := by rw [hw7]; simp
      have d1 : w7.cell? ⟨w6.heap.size, 1, none⟩ = some (.int .i64 co) := by rw [hw7]; simp
      have d2 : w7.cell? ⟨w6.heap.size, 2, none⟩ = some (.int .i64 e) := by rw [hw7]; simp
      have f0 : w7.cell? ⟨w6.heap.size + 1, 0, none⟩ = some (.slice al6 l.length nc6) := by rw [hw7]; simp
      have f1 : w7.cell? ⟨w6.heap.size + 1, 1, none⟩ = some (.int .i64 co) := by rw [hw7]; simp
      have f2 : w7.cell? ⟨w6.heap.size + 1, 2, none⟩ = some (.int .i64 e) := by rw [hw7]; simp
      have hF : Fr NoB w6 w7 := by rw [hw7]; (repeat (first | exact Fr.refl _ _ | refine Fr.alloc ?_ _ | refine Fr.setNew ?_ (by omega) _ _ | refine Fr.drewN ?_ _ | refine Fr.drew ?_))
      clear hw7
      have H7 := Lib.hid (H6.out.keep hF)
      have HR5 := Lib.hid (Rd.keep HR5'.out hF (fun _ _ h => h))
      have HR6' := Lib.hid (Rd.keep HR6.out hF (fun _ _ h => h))
      clear H6 HR5' HR6 hF
      generalize w6.heap.size = z at *
      rcases HFIN.out with rfl | ⟨rfl, hN⟩
      · (refine wp_region_held_drew (S := (fun W => W.cell? ⟨z, 0, none⟩ = some (.slice al5 l.length nc5) ∧ W.cell? ⟨z, 1, none⟩ = some (.int .i64 co) ∧ W.cell? ⟨z, 2, none⟩ = some (.int .i64 (-1)) ∧ W.cell? ⟨z + 1, 0, none⟩ = some (.slice al6 l.length nc6) ∧ W.cell? ⟨z + 1, 1, none⟩ = some (.int .i64 co) ∧ W.cell? ⟨z + 1, 2, none⟩ = some (.int .i64 (-1)))) (by kernel_rfl) ⟨d0, d1, d2, f0, f1, f2⟩ (fun hHeld => ?_))
        (refine wpAnyH_take (i := 0) (v := ?_) (by simp only [List.getElem?_toArray, List.getElem?_cons_zero]; rfl) (by kernel_rfl) (by kernel_rfl) (by kernel_rfl) (by exact fun _ _ _ h => h) (Or.inl ⟨by rfl, ?_⟩) hHeld ?_; rotate_left; (focus (intro w hSw; (try dsimp only at hSw); go_simp; all_goals with_reducible rfl)); (try simp only [Act.put, List.setIfInBounds_toArray, List.set_cons_zero, List.set_cons_succ])); (refine wpAnyH_take (i := 1) (v := ?_) (by simp only [List.getElem?_toArray, List.getElem?_cons_succ, List.getElem?_cons_zero]; rfl) (by kernel_rfl) (by kernel_rfl) (by kernel_rfl) (by exact fun _ _ _ h => h) (Or.inl ⟨by rfl, ?_⟩) hHeld ?_; rotate_left; (focus (intro w hSw; (try dsimp only at hSw); go_simp; all_goals with_reducible rfl)); (try simp only [Act.put, List.setIfInBounds_toArray, List.set_cons_zero, List.set_cons_succ])); (refine wpAnyH_take (i := 2) (v := ?_) (by simp only [List.getElem?_toArray, List.getElem?_cons_succ, List.getElem?_cons_zero]; rfl) (by kernel_rfl) (by kernel_rfl) (by kernel_rfl) (by exact fun _ _ _ h => h) (Or.inl ⟨by rfl, ?_⟩) hHeld ?_; rotate_left; (focus (intro w hSw; (try dsimp only at hSw); go_simp; all_goals with_reducible rfl)); (try simp only [Act.put, List.setIfInBounds_toArray, List.set_cons_zero, List.set_cons_succ])); (refine wpAnyH_take (i := 3) (v := ?_) (by simp only [List.getElem?_toArray, List.getElem?_cons_succ, List.getElem?_cons_zero]; rfl) (by kernel_rfl) (by kernel_rfl) (by kernel_rfl) (by exact fun _ _ _ h => h) (Or.inl ⟨by rfl, ?_⟩) hHeld ?_; rotate_left; (focus (intro w hSw; (try dsimp only at hSw); go_simp; all_goals with_reducible rfl)); (try simp only [Act.put, List.setIfInBounds_toArray, List.set_cons_zero, List.set_cons_succ])); (refine wpAnyH_take (i := 4) (v := ?_) (by simp only [List.getElem?_toArray, List.getElem?_cons_succ, List.getElem?_cons_zero]; rfl) (by kernel_rfl) (by kernel_rfl) (by kernel_rfl) (by exact fun _ _ _ h => h) (Or.inl ⟨by rfl, ?_⟩) hHeld ?_; rotate_left; (focus (intro w hSw; (try dsimp only at hSw); go_simp; all_goals with_reducible rfl)); (try simp only [Act.put, List.setIfInBounds_toArray, List.set_cons_zero, List.set_cons_succ])); (refine wpAnyH_take (i := 5) (v := ?_) (by simp only [List.getElem?_toArray, List.getElem?_cons_succ, List.getElem?_cons_zero]; rfl) (by kernel_rfl) (by kernel_rfl) (by kernel_rfl) (by exact fun _ _ _ h => h) (Or.inl ⟨by rfl, ?_⟩) hHeld ?_; rotate_left; (focus (intro w hSw; (try dsimp only at hSw); go_simp; all_goals with_reducible rfl)); (try simp only [Act.put, List.setIfInBounds_toArray, List.set_cons_zero, List.set_cons_succ])); (refine wpAnyH_take (i := 6) (v := ?_) (by simp only [List.getElem?_toArray, List.getElem?_cons_succ, List.getElem?_cons_zero]; rfl) (by kernel_rfl) (by kernel_rfl) (by kernel_rfl) (by exact fun _ _ _ h => h) (Or.inl ⟨by rfl, ?_⟩) hHeld ?_; rotate_left; (focus (intro w hSw; (try dsimp only at hSw); go_simp; all_goals with_reducible rfl)); (try simp only [Act.put, List.setIfInBounds_toArray, List.set_cons_zero, List.set_cons_succ])); (refine wpAnyH_take (i := 7) (v := ?_) (by simp only [List.getElem?_toArray, List.getElem?_cons_succ, List.getElem?_cons_zero]; rfl) (by kernel_rfl) (by kernel_rfl) (by kernel_rfl) (by exact fun _ _ _ h => h) (Or.inl ⟨by rfl, ?_⟩) hHeld ?_; rotate_left; (focus (intro w hSw; (try dsimp only at hSw); go_simp; all_goals with_reducible rfl)); (try simp only [Act.put, List.setIfInBounds_toArray, List.set_cons_zero, List.set_cons_succ])); (refine wpAnyH_take (i := 8) (v := undef) (by simp only [List.getElem?_toArray, List.getElem?_cons_succ, List.getElem?_cons_zero]; rfl) (by kernel_rfl) (by kernel_rfl) (by kernel_rfl) (by exact fun _ _ _ h => h) (Or.inr ⟨by rfl, rfl⟩) hHeld ?_; (try simp only [Act.put, List.setIfInBounds_toArray, List.set_cons_zero, List.set_cons_succ])); (refine wpAnyH_take (i := 9) (v := undef) (by simp only [List.getElem?_toArray, List.getElem?_cons_succ, List.getElem?_cons_zero]; rfl) (by kernel_rfl) (by kernel_rfl) (by kernel_rfl) (by exact fun _ _ _ h => h) (Or.inr ⟨by rfl, rfl⟩) hHeld ?_; (try simp only [Act.put, List.setIfInBounds_toArray, List.set_cons_zero, List.set_cons_succ])); (refine wpAnyH_take (i := 10) (v := undef) (by simp only [List.getElem?_toArray, List.getElem?_cons_succ, List.getElem?_cons_zero]; rfl) (by kernel_rfl) (by kernel_rfl) (by kernel_rfl) (by exact fun _ _ _ h => h) (Or.inr ⟨by rfl, rfl⟩) hHeld ?_; (try simp only [Act.put, List.setIfInBounds_toArray, List.set_cons_zero, List.set_cons_succ])); (refine wpAnyH_take (i := 11) (v := undef) (by simp only [List.getElem?_toArray, List.getElem?_cons_succ, List.getElem?_cons_zero]; rfl) (by kernel_rfl) (by kernel_rfl) (by kernel_rfl) (by exact fun _ _ _ h => h) (Or.inr ⟨by rfl, rfl⟩) hHeld ?_; (try simp only [Act.put, List.setIfInBounds_toArray, List.set_cons_zero, List.set_cons_succ])); (refine wpAnyH_take (i := 12) (v := undef) (by simp only [List.getElem?_toArray, List.getElem?_cons_succ, List.getElem?_cons_zero]; rfl) (by kernel_rfl) (by kernel_rfl) (by kernel_rfl) (by exact fun _ _ _ h => h) (Or.inr ⟨by rfl, rfl⟩) hHeld ?_; (try simp only [Act.put, List.setIfInBounds_toArray, List.set_cons_zero, List.set_cons_succ])); (refine wpAnyH_take (i := 13) (v := undef) (by simp only [List.getElem?_toArray, List.getElem?_cons_succ, List.getElem?_cons_zero]; rfl) (by kernel_rfl) (by kernel_rfl) (by kernel_rfl) (by exact fun _ _ _ h => h) (Or.inr ⟨by rfl, rfl⟩) hHeld ?_; (try simp only [Act.put, List.setIfInBounds_toArray, List.set_cons_zero, List.set_cons_succ])); (refine wpAnyH_take (i := 14) (v := ?_) (by simp only [List.getElem?_toArray, List.getElem?_cons_succ, List.getElem?_cons_zero]; rfl) (by kernel_rfl) (by kernel_rfl) (by kernel_rfl) (by exact fun _ _ _ h => h) (Or.inl ⟨by rfl, ?_⟩) hHeld ?_; rotate_left; (focus (intro w hSw; (try dsimp only at hSw); go_simp; all_goals with_reducible rfl)); (try simp only [Act.put, List.setIfInBounds_toArray, List.set_cons_zero, List.set_cons_succ])); (refine wpAnyH_take (i := 15) (v := ?_) (by simp only [List.getElem?_toArray, List.getElem?_cons_succ, List.getElem?_cons_zero]; rfl) (by kernel_rfl) (by kernel_rfl) (by kernel_rfl) (by exact fun _ _ _ h => h) (Or.inl ⟨by rfl, ?_⟩) hHeld ?_; rotate_left; (focus (intro w hSw; (try dsimp only at hSw); go_simp; all_goals with_reducible rfl)); (try simp only [Act.put, List.setIfInBounds_toArray, List.set_cons_zero, List.set_cons_succ])); (refine wpAnyH_take (i := 16) (v := ?_) (by simp only [List.getElem?_toArray, List.getElem?_cons_succ, List.getElem?_cons_zero]; rfl) (by kernel_rfl) (by kernel_rfl) (by kernel_rfl) (by exact fun _ _ _ h => h) (Or.inl ⟨by rfl, ?_⟩) hHeld ?_; rotate_left; (focus (intro w hSw; (try dsimp only at hSw); go_simp; all_goals with_reducible rfl)); (try simp only [Act.put, List.setIfInBounds_toArray, List.set_cons_zero, List.set_cons_succ])); (refine wpAnyH_take (i := 17) (v := ?_) (by simp only [List.getElem?_toArray, List.getElem?_cons_succ, List.getElem?_cons_zero]; rfl) (by kernel_rfl) (by kernel_rfl) (by kernel_rfl) (by exact fun _ _ _ h => h) (Or.inl ⟨by rfl, ?_⟩) hHeld ?_; rotate_left; (focus (intro w hSw; (try dsimp only at hSw); go_simp; all_goals with_reducible rfl)); (try simp only [Act.put, List.setIfInBounds_toArray, List.set_cons_zero, List.set_cons_succ])); (refine wpAnyH_take (i := 18) (v := ?_) (by simp only [List.getElem?_toArray, List.getElem?_cons_succ, List.getElem?_cons_zero]; rfl) (by kernel_rfl) (by kernel_rfl) (by kernel_rfl) (by exact fun _ _ _ h => h) (Or.inl ⟨by rfl, ?_⟩) hHeld ?_; rotate_left; (focus (intro w hSw; (try dsimp only at hSw); go_simp; all_goals with_reducible rfl)); (try simp only [Act.put, List.setIfInBounds_toArray, List.set_cons_zero, List.set_cons_succ])); (refine wpAnyH_take (i := 19) (v := ?_) (by simp only [List.getElem?_toArray, List.getElem?_cons_succ, List.getElem?_cons_zero]; rfl) (by kernel_rfl) (by kernel_rfl) (by kernel_rfl) (by exact fun _ _ _ h => h) (Or.inl ⟨by rfl, ?_⟩) hHeld ?_; rotate_left; (focus (intro w hSw; (try dsimp only at hSw); go_simp; all_goals with_reducible rfl)); (try simp only [Act.put, List.setIfInBounds_toArray, List.set_cons_zero, List.set_cons_succ])); (refine wpAnyH_take (i := 20) (v := ?_) (by simp only [List.getElem?_toArray, List.getElem?_cons_succ, List.getElem?_cons_zero]; rfl) (by kernel_rfl) (by kernel_rfl) (by kernel_rfl) (by exact fun _ _ _ h => h) (Or.inl ⟨by rfl, ?_⟩) hHeld ?_; rotate_left; (focus (intro w hSw; (try dsimp only at hSw); go_simp; all_goals with_reducible rfl)); (try simp only [Act.put, List.setIfInBounds_toArray, List.set_cons_zero, List.set_cons_succ])); (refine wpAnyH_take (i := 21) (v := ?_) (by simp only [List.getElem?_toArray, List.getElem?_cons_succ, List.getElem?_cons_zero]; rfl) (by kernel_rfl) (by kernel_rfl) (by kernel_rfl) (by exact fun _ _ _ h => h) (Or.inl ⟨by rfl, ?_⟩) hHeld ?_; rotate_left; (focus (intro w hSw; (try dsimp only at hSw); go_simp; all_goals with_reducible rfl)); (try simp only [Act.put, List.setIfInBounds_toArray, List.set_cons_zero, List.set_cons_succ])); (refine wpAnyH_take (i := 22) (v := ?_) (by simp only [List.getElem?_toArray, List.getElem?_cons_succ, List.getElem?_cons_zero]; rfl) (by kernel_rfl) (by kernel_rfl) (by kernel_rfl) (by exact fun _ _ _ h => h) (Or.inl ⟨by rfl, ?_⟩) hHeld ?_; rotate_left; (focus (intro w hSw; (try dsimp only at hSw); go_simp; all_goals with_reducible rfl)); (try simp only [Act.put, List.setIfInBounds_toArray, List.set_cons_zero, List.set_cons_succ])); (refine wpAnyH_take (i := 23) (v := ?_) (by simp only [List.getElem?_toArray, List.getElem?_cons_succ, List.getElem?_cons_zero]; rfl) (by kernel_rfl) (by kernel_rfl) (by kernel_rfl) (by exact fun _ _ _ h => h) (Or.inl ⟨by rfl, ?_⟩) hHeld ?_; rotate_left; (focus (intro w hSw; (try dsimp only at hSw); go_simp; all_goals with_reducible rfl)); (try simp only [Act.put, List.setIfInBounds_toArray, List.set_cons_zero, List.set_cons_succ])); (refine wpAnyH_take (i := 24) (v := ?_) (by simp only [List.getElem?_toArray, List.getElem?_cons_succ, List.getElem?_cons_zero]; rfl) (by kernel_rfl) (by kernel_rfl) (by kernel_rfl) (by exact fun _ _ _ h => h) (Or.inl ⟨by rfl, ?_⟩) hHeld ?_; rotate_left; (focus (intro w hSw; (try dsimp only at hSw); go_simp; all_goals with_reducible rfl)); (try simp only [Act.put, List.setIfInBounds_toArray, List.set_cons_zero, List.set_cons_succ])); (refine wpAnyH_take (i := 25) (v := ?_) (by simp only [List.getElem?_toArray, List.getElem?_cons_succ, List.getElem?_cons_zero]; rfl) (by kernel_rfl) (by kernel_rfl) (by kernel_rfl) (by exact fun _ _ _ h => h) (Or.inl ⟨by rfl, ?_⟩) hHeld ?_; rotate_left; (focus (intro w hSw; (try dsimp only at hSw); go_simp; all_goals with_reducible rfl)); (try simp only [Act.put, List.setIfInBounds_toArray, List.set_cons_zero, List.set_cons_succ])); (refine wpAnyH_take (i := 26) (v := ?_) (by simp only [List.getElem?_toArray, List.getElem?_cons_succ, List.getElem?_cons_zero]; rfl) (by kernel_rfl) (by kernel_rfl) (by kernel_rfl) (by exact fun _ _ _ h => h) (Or.inl ⟨by rfl, ?_⟩) hHeld ?_; rotate_left; (focus (intro w hSw; (try dsimp only at hSw); go_simp; all_goals with_reducible rfl)); (try simp only [Act.put, List.setIfInBounds_toArray, List.set_cons_zero, List.set_cons_succ])); (refine wpAnyH_take (i := 27) (v := ?_) (by simp only [List.getElem?_toArray, List.getElem?_cons_succ, List.getElem?_cons_zero]; rfl) (by kernel_rfl) (by kernel_rfl) (by kernel_rfl) (by exact fun _ _ _ h => h) (Or.inl ⟨by rfl, ?_⟩) hHeld ?_; rotate_left; (focus (intro w hSw; (try dsimp only at hSw); go_simp; all_goals with_reducible rfl)); (try simp only [Act.put, List.setIfInBounds_toArray, List.set_cons_zero, List.set_cons_succ])); (refine wpAnyH_take (i := 28) (v := ?_) (by simp only [List.getElem?_toArray, List.getElem?_cons_succ, List.getElem?_cons_zero]; rfl) (by kernel_rfl) (by kernel_rfl) (by kernel_rfl) (by exact fun _ _ _ h => h) (Or.inl ⟨by rfl, ?_⟩) hHeld ?_; rotate_left; (focus (intro w hSw; (try dsimp only at hSw); go_simp; all_goals with_reducible rfl)); (try simp only [Act.put, List.setIfInBounds_toArray, List.set_cons_zero, List.set_cons_succ])); (refine wpAnyH_take (i := 29) (v := ?_) (by simp only [List.getElem?_toArray, List.getElem?_cons_succ, List.getElem?_cons_zero]; rfl) (by kernel_rfl) (by kernel_rfl) (by kernel_rfl) (by exact fun _ _ _ h => h) (Or.inl ⟨by rfl, ?_⟩) hHeld ?_; rotate_left; (focus (intro w hSw; (try dsimp only at hSw); go_simp; all_goals with_reducible rfl)); (try simp only [Act.put, List.setIfInBounds_toArray, List.set_cons_zero, List.set_cons_succ])); (refine wpAnyH_take (i := 30) (v := ?_) (by simp only [List.getElem?_toArray, List.getElem?_cons_succ, List.getElem?_cons_zero]; rfl) (by kernel_rfl) (by kernel_rfl) (by kernel_rfl) (by exact fun _ _ _ h => h) (Or.inl ⟨by rfl, ?_⟩) hHeld ?_; rotate_left; (focus (intro w hSw; (try dsimp only at hSw); go_simp; all_goals with_reducible rfl)); (try simp only [Act.put, List.setIfInBounds_toArray, List.set_cons_zero, List.set_cons_succ])); (refine wpAnyH_take (i := 31) (v := ?_) (by simp only [List.getElem?_toArray, List.getElem?_cons_succ, List.getElem?_cons_zero]; rfl) (by kernel_rfl) (by kernel_rfl) (by kernel_rfl) (by exact fun _ _ _ h => h) (Or.inl ⟨by rfl, ?_⟩) hHeld ?_; rotate_left; (focus (intro w hSw; (try dsimp only at hSw); go_simp; all_goals with_reducible rfl)); (try simp only [Act.put, List.setIfInBounds_toArray, List.set_cons_zero, List.set_cons_succ])); (refine wpAnyH_take (i := 32) (v := ?_) (by simp only [List.getElem?_toArray, List.getElem?_cons_succ, List.getElem?_cons_zero]; rfl) (by kernel_rfl) (by kernel_rfl) (by kernel_rfl) (by exact fun _ _ _ h => h) (Or.inl ⟨by rfl, ?_⟩) hHeld ?_; rotate_left; (focus (intro w hSw; (try dsimp only at hSw); go_simp; all_goals with_reducible rfl)); (try simp only [Act.put, List.setIfInBounds_toArray, List.set_cons_zero, List.set_cons_succ])); (refine wpAnyH_take (i := 33) (v := ?_) (by simp only [List.getElem?_toArray, List.getElem?_cons_succ, List.getElem?_cons_zero]; rfl) (by kernel_rfl) (by kernel_rfl) (by kernel_rfl) (by exact fun _ _ _ h => h) (Or.inl ⟨by rfl, ?_⟩) hHeld ?_; rotate_left; (focus (intro w hSw; (try dsimp only at hSw); go_simp; all_goals with_reducible rfl)); (try simp only [Act.put, List.setIfInBounds_toArray, List.set_cons_zero, List.set_cons_succ])); (refine wpAnyH_take (i := 34) (v := ?_) (by simp only [List.getElem?_toArray, List.getElem?_cons_succ, List.getElem?_cons_zero]; rfl) (by kernel_rfl) (by kernel_rfl) (by kernel_rfl) (by exact fun _ _ _ h => h) (Or.inl ⟨by rfl, ?_⟩) hHeld ?_; rotate_left; (focus (intro w hSw; (try dsimp only at hSw); go_simp; all_goals with_reducible rfl)); (try simp only [Act.put, List.setIfInBounds_toArray, List.set_cons_zero, List.set_cons_succ])); (refine wpAnyH_take (i := 35) (v := ?_) (by simp only [List.getElem?_toArray, List.getElem?_cons_succ, List.getElem?_cons_zero]; rfl) (by kernel_rfl) (by kernel_rfl) (by kernel_rfl) (by exact fun _ _ _ h => h) (Or.inl ⟨by rfl, ?_⟩) hHeld ?_; rotate_left; (focus (intro w hSw; (try dsimp only at hSw); go_simp; all_goals with_reducible rfl)); (try simp only [Act.put, List.setIfInBounds_toArray, List.set_cons_zero, List.set_cons_succ])); (refine wpAnyH_take (i := 36) (v := ?_) (by simp only [List.getElem?_toArray, List.getElem?_cons_succ, List.getElem?_cons_zero]; rfl) (by kernel_rfl) (by kernel_rfl) (by kernel_rfl) (by exact fun _ _ _ h => h) (Or.inl ⟨by rfl, ?_⟩) hHeld ?_; rotate_left; (focus (intro w hSw; (try dsimp only at hSw); go_simp; all_goals with_reducible rfl)); (try simp only [Act.put, List.setIfInBounds_toArray, List.set_cons_zero, List.set_cons_succ])); (refine wpAnyH_take (i := 37) (v := ?_) (by simp only [List.getElem?_toArray, List.getElem?_cons_succ, List.getElem?_cons_zero]; rfl) (by kernel_rfl) (by kernel_rfl) (by kernel_rfl) (by exact fun _ _ _ h => h) (Or.inl ⟨by rfl, ?_⟩) hHeld ?_; rotate_left; (focus (intro w hSw; (try dsimp only at hSw); go_simp; all_goals with_reducible rfl)); (try simp only [Act.put, List.setIfInBounds_toArray, List.set_cons_zero, List.set_cons_succ])); (refine wpAnyH_take (i := 38) (v := ?_) (by simp only [List.getElem?_toArray, List.getElem?_cons_succ, List.getElem?_cons_zero]; rfl) (by kernel_rfl) (by kernel_rfl) (by kernel_rfl) (by exact fun _ _ _ h => h) (Or.inl ⟨by rfl, ?_⟩) hHeld ?_; rotate_left; (focus (intro w hSw; (try dsimp only at hSw); go_simp; all_goals with_reducible rfl)); (try simp only [Act.put, List.setIfInBounds_toArray, List.set_cons_zero, List.set_cons_succ])); (refine wpAnyH_take (i := 39) (v := ?_) (by simp only [List.getElem?_toArray, List.getElem?_cons_succ, List.getElem?_cons_zero]; rfl) (by kernel_rfl) (by kernel_rfl) (by kernel_rfl) (by exact fun _ _ _ h => h) (Or.inl ⟨by rfl, ?_⟩) hHeld ?_; rotate_left; (focus (intro w hSw; (try dsimp only at hSw); go_simp; all_goals with_reducible rfl)); (try simp only [Act.put, List.setIfInBounds_toArray, List.set_cons_zero, List.set_cons_succ])); (refine wpAnyH_take (i := 40) (v := ?_) (by simp only [List.getElem?_toArray, List.getElem?_cons_succ, List.getElem?_cons_zero]; rfl) (by kernel_rfl) (by kernel_rfl) (by kernel_rfl) (by exact fun _ _ _ h => h) (Or.inl ⟨by rfl, ?_⟩) hHeld ?_; rotate_left; (focus (intro w hSw; (try dsimp only at hSw); go_simp; all_goals with_reducible rfl)); (try simp only [Act.put, List.setIfInBounds_toArray, List.set_cons_zero, List.set_cons_succ]))
        (refine wpAnyH_ready (rs := [41]) (by kernel_rfl) (by simp) ?_; refine AllReadyH.cons (by simp only [List.getElem?_toArray, List.getElem?_cons_succ, List.getElem?_cons_zero]; rfl) (fun K hK => ?_) AllReadyH.nil; go_simp); (refine (SameI_self al5 al6 l.length nc5 nc6 (fun i => l.getD i 0) _ (by have := HLEN.out; omega) (by exact HR5.out) (by exact HR6'.out)).mono ?_; rintro e1 w8 ⟨rfl, hf⟩; have hf := (Fr.refl NoB w7).drew.trans hf; have g0 := cell_fr' hf d0 (fun h => h); have g1 := cell_fr' hf d1 (fun h => h); have g2 := cell_fr' hf d2 (fun h => h); have i0 := cell_fr' hf f0 (fun h => h); have i1 := cell_fr' hf f1 (fun h => h); have i2 := cell_fr' hf f2 (fun h => h); have H8 := Lib.hid (H7.out.keep hf); clear hf); (try go_wp2_with fail); (refine hK.out _ _ ⟨g0, g1, g2, i0, i1, i2⟩ (fun hHeld => ?_)); clear hK K; (try simp only [Act.put, List.setIfInBounds_toArray, List.set_cons_zero, List.set_cons_succ])
        (refine wpAnyH_take (i := 42) (v := ?_) (by simp only [List.getElem?_toArray, List.getElem?_cons_succ, List.getElem?_cons_zero]; rfl) (by kernel_rfl) (by kernel_rfl) (by kernel_rfl) (by exact fun _ _ _ h => h) (Or.inl ⟨by rfl, ?_⟩) hHeld ?_; rotate_left; (focus (intro w hSw; (try dsimp only at hSw); go_simp; all_goals with_reducible rfl)); (try simp only [Act.put, List.setIfInBounds_toArray, List.set_cons_zero, List.set_cons_succ])); (refine wpAnyH_take (i := 43) (v := ?_) (by simp only [List.getElem?_toArray, List.getElem?_cons_succ, List.getElem?_cons_zero]; rfl) (by kernel_rfl) (by kernel_rfl) (by kernel_rfl) (by exact fun _ _ _ h => h) (Or.inl ⟨by rfl, ?_⟩) hHeld ?_; rotate_left; (focus (intro w hSw; (try dsimp only at hSw); go_simp; all_goals with_reducible rfl)); (try simp only [Act.put, List.setIfInBounds_toArray, List.set_cons_zero, List.set_cons_succ]))
        (refine wpAnyH_done (by kernel_rfl) ?_ _)
        clear d0 d1 d2 f0 f1 f2 g0 g1 g2 i0 i1 i2 HR5 HR6' H7
        go_wp2
        go_roundw
        case rel => exact ⟨k + 1, by omega, by go_num, H8.out⟩
        case measure => simp [intOf]; omega
      · have hb1 : (e == -2) = false := by have := hN.1; simp; omega
        have hb2 : (e != -1) = true := by have := hN.1; simp; omega
        clear hN
        go_region_held3 (fun W => W.cell? ⟨z, 0, none⟩ = some (.slice al5 l.length nc5) ∧ W.cell? ⟨z, 1, none⟩ = some (.int .i64 co) ∧ W.cell? ⟨z, 2, none⟩ = some (.int .i64 e) ∧ W.cell? ⟨z + 1, 0, none⟩ = some (.slice al6 l.length nc6) ∧ W.cell? ⟨z + 1, 1, none⟩ = some (.int .i64 co) ∧ W.cell? ⟨z + 1, 2, none⟩ = some (.int .i64 e))
          (first | exact ⟨d0, d1, d2, f0, f1, f2⟩ | exact ⟨o0, o1, o2, p0, p1, p2⟩ | exact ⟨g0, g1, g2, i0, i1, i2⟩)
          (first | (go_at_call 16; refine (HOW.out _ (by exact H7.out.keep (Fr.refl _ _).drew)).mono ?_; rintro e1 w8 ⟨rfl, hf⟩; have hf := (Fr.refl NoB w7).drew.trans hf; have o0 := cell_fr' hf d0 (fun h => h); have o1 := cell_fr' hf d1 (fun h => h); have o2 := cell_fr' hf d2 (fun h => h); have p0 := cell_fr' hf f0 (fun h => h); have p1 := cell_fr' hf f1 (fun h => h); have p2 := cell_fr' hf f2 (fun h => h); have HR5b := Lib.hid (Rd.keep HR5.out hf (fun _ _ h => h)); have HR6b := Lib.hid (Rd.keep HR6'.out hf (fun _ _ h => h)); have H8 := Lib.hid (H7.out.keep hf); clear hf) | (go_at_call 36; refine (SameI_self al5 al6 l.length nc5 nc6 (fun i => l.getD i 0) _ (by have := HLEN.out; omega) (by exact HR5b.out) (by exact HR6b.out)).mono ?_; rintro e1 w9 ⟨rfl, hf⟩; have g0 := cell_fr' hf o0 (fun h => h); have g1 := cell_fr' hf o1 (fun h => h); have g2 := cell_fr' hf o2 (fun h => h); have i0 := cell_fr' hf p0 (fun h => h); have i1 := cell_fr' hf p1 (fun h => h); have i2 := cell_fr' hf p2 (fun h => h); have H9 := Lib.hid (H8.out.keep hf); clear hf))
        clear d0 d1 d2 f0 f1 f2 g0 g1 g2 i0 i1 i2 o0 o1 o2 p0 p1 p2 HR5 HR6' H7 H8 HR5b HR6b
        go_wp2
        go_roundw
        case rel => exact ⟨k + 1, by omega, by go_num, H9.out⟩
        case measure => simp [intOf]; omega
    · obtain rfl : k = 6 := by omega
      go_wp2
      go_ret
      exact ⟨rfl, H.out.f⟩
set_option maxRecDepth 100000 in
set_option maxHeartbeats 2000000 in
theorem WalkStraight_all (a0 : Option Addr) (n0 c0 : Nat) (X0 : Nat → Int) (a1 : Int) (w : World) (r0 : Rd w a0 (n0 * 6) X0) :
    Calls Tryz.prog 10 #[.slice a0 n0 c0, .int .i64 a1] w (TrueFr w) := by
  by_cases hn : n0 ≤ 150
  · exact WalkStraight_main a0 n0 c0 X0 a1 w hn r0
  · clear r0
    have hnb : decide ((150 : Int) < (n0 : Int)) = true := by simp; omega
    go_enter Tryz.func10, Tryz.ntmps10
    go_wp2_with fail
    refine (walkBegun_true _).mono ?_
    rintro e w1 ⟨rfl, hF⟩
    have HF := Lib.hid hF; clear hF
    go_wp2
    go_ret
    exact ⟨rfl, HF.out⟩
end Go.Proofs.YteedndapbfihaaaGreat
