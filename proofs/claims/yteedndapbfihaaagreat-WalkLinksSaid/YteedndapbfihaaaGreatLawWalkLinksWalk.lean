/- The walk of WalkLinks. -/
import Derived.Test.YteedndapbfihaaaGreatB40
namespace Go.Proofs.YteedndapbfihaaaGreat
open Go.RowKit Go.Deep

theorem Cost_s (b : Nat) (x y : Nat) (C : Nat → Nat → Int) (w : World) (hx : x < 6) (hy : y < 6) (hC : CAt w b 108 C) :
    Calls Tryz.prog 37 #[.pointer (some ⟨b, 0, none⟩), .int .i64 x, .int .i64 y] w fun e w' => e = .returned (.int .i64 (C x y)) ∧ w' = w :=
  (Cost_yes b x y C w hx hy hC).mono fun _ _ h => ⟨h.1, h.2.symm⟩
theorem psum_bd2 {C : Nat → Nat → Int} (hC : Lk.CostOK C) {l : List Int} (hn : ∀ x ∈ l, Nt.isN x) : ∀ k, k < l.length → 0 ≤ Nt.psum C l k ∧ Nt.psum C l k ≤ 15 * (k : Int)
  | 0, _ => by simp [Nt.psum]
  | k + 1, hk => by
    obtain ⟨h1, h2⟩ := psum_bd2 hC hn k (by omega)
    have hx : Nt.isN (l.getD k 0) := hn _ (by rw [List.getD_eq_getElem?_getD, List.getElem?_eq_getElem (by omega)]; exact List.getElem_mem _)
    have hy : Nt.isN (l.getD (k + 1) 0) := hn _ (by rw [List.getD_eq_getElem?_getD, List.getElem?_eq_getElem hk]; exact List.getElem_mem _)
    unfold Nt.isN at hx hy
    rw [Nt.psum]
    have := hC.lo (l.getD k 0).toNat (l.getD (k + 1) 0).toNat (by omega) (by omega)
    have := hC.hi (l.getD k 0).toNat (l.getD (k + 1) 0).toNat (by omega) (by omega)
    omega
/-- A post, a walk over it, and where a letter went. -/
structure LkK (w : World) (q : PIds) (v tv : Value) (s : Fb.PT) (b : Nat) (T : Nat → Nat) (V : Nat → Value) (L : Nat → List Tb.Rt) (z : Nat) (al : Option Addr) (nc : Nat) (l : List Int) (co e : Int) (base : Nat) (wr : World) : Prop where
  k : PWK w q v tv s b T V L wr
  d0 : wr.cell? ⟨z, 0, none⟩ = some (.slice al l.length nc)
  d1 : wr.cell? ⟨z, 1, none⟩ = some (.int .i64 co)
  d2 : wr.cell? ⟨z, 2, none⟩ = some (.int .i64 e)
  sl : Sl wr base (.slice al l.length nc) l
theorem LkK.keep {w wr wx : World} {q : PIds} {v tv : Value} {s : Fb.PT} {b : Nat} {T : Nat → Nat} {V : Nat → Value} {L : Nat → List Tb.Rt} {z : Nat} {al : Option Addr} {nc : Nat} {l : List Int} {co e : Int} {base : Nat} (h : LkK w q v tv s b T V L z al nc l co e base wr) (hf : Fr NoB wr wx) : LkK w q v tv s b T V L z al nc l co e base wx :=
  ⟨h.k.keep hf, cell_fr' hf h.d0 (fun h => h), cell_fr' hf h.d1 (fun h => h), cell_fr' hf h.d2 (fun h => h), own_keep h.sl hf (fun _ _ h => h)⟩
def LkRel1 (w : World) (q : PIds) (v tv : Value) (s : Fb.PT) (b : Nat) (T : Nat → Nat) (V : Nat → Value) (L : Nat → List Tb.Rt) (z : Nat) (al : Option Addr) (nc : Nat) (l : List Int) (co e : Int) (base : Nat) (g : Nat) (sv i : Value) (wr : World) : Prop :=
  ∃ k : Nat, k + 1 ≤ l.length ∧ g = l.length - (k + 1) ∧ sv = .int .i64 (Nt.psum s.t.C l k) ∧ i = .int .i64 (k + 1 : Nat) ∧ LkK w q v tv s b T V L z al nc l co e base wr
def LkRel2 (w : World) (q : PIds) (v tv : Value) (s : Fb.PT) (b : Nat) (T : Nat → Nat) (V : Nat → Value) (L : Nat → List Tb.Rt) (z : Nat) (al : Option Addr) (nc : Nat) (l : List Int) (co e : Int) (base : Nat) (g : Nat) (i : Value) (wr : World) : Prop :=
  ∃ k : Nat, k ≤ l.length ∧ g = l.length - k ∧ i = .int .i64 k ∧ LkK w q v tv s b T V L z al nc l co e base wr
set_option maxRecDepth 100000 in
set_option maxHeartbeats 8000000 in
theorem WalkLinks_main (a0 : Option Addr) (n0 c0 : Nat) (X0 : Nat → Int) (src : Nat) (x : Int) (w : World) (hn0 : n0 ≤ 150) (hsrc : src < 6) (r0 : Rd w a0 (n0 * 6) X0) :
    Calls Tryz.prog 9 #[.slice a0 n0 c0, .int .i64 src, .int .i64 x] w (TrueFr w) := by
  have hnb : decide ((150 : Int) < (n0 : Int)) = false := by simp; omega
  have R0 := Lib.hid r0; clear r0
  go_enter Tryz.func9, Tryz.ntmps9
  go_wp2_with fail
  refine (walkBegun_true _).mono ?_
  rintro e w1 ⟨rfl, hf1⟩
  have HF1 := Lib.hid hf1; clear hf1
  go_wp2_with fail
  refine (posts_any a0 n0 c0 X0 _ (by omega) (Rd.keep R0.out HF1.out (fun _ _ h => h))).mono ?_
  rintro e w2 ⟨q, v, tv, y, u, al, rfl, h2⟩
  have hok := Fb.POk.runF Fb.POk.begun X0 n0
  have h3 : PK w q v tv (Fb.runF Fb.begunP X0 n0) w2 := ⟨h2.p.at_, HF1.out.trans h2.p.f⟩
  clear h2 HF1 R0
  generalize Fb.runF Fb.begunP X0 n0 = S at *
  have HOK := Lib.hid hok; clear hok; have H := Lib.hid h3; clear h3
  go_wp2_with fail
  refine (NewW true q v tv S _ _ HOK.out H.out.at_).mono ?_
  rintro e w3 ⟨b, T, V, rfl, hw, hf, _⟩
  have H3 : Hid (PWK w q v tv S b T V (tabOf true S) w3) := ⟨H.out.at_.keep0 hf, hw, H.out.f.trans hf⟩
  clear H hf hw
  obtain ⟨l, e0, htr⟩ := Wk.wy_any HOK.out.str hsrc (Fb.owner_cases HOK.out.o x)
  have hg1 := WGo_tab HOK.out HOK.out src x w3 H3.out.k H3.out.p
  have hg2 := fun (k : Nat) (hk : k < l.length) W (h : PWK w q v tv S b T V (tabOf true S) W) => WGo_tab HOK.out HOK.out (l.getD k 0) x W h.k h.p
  have hlink := fun (k : Nat) (hk : k + 1 < l.length) => htr.link HOK.out.str (Fb.owner_cases HOK.out.o x) hk
  have hcs := Wk.csum_psum S.t.C l htr.wy.nodes
  have hbd := psum_bd2 HOK.out.str.ok.cost htr.wy.nodes
  have hhd : l.getD 0 0 = src ∧ 0 < l.length := by
    rcases htr.wy.head with ⟨h1, _⟩ | ⟨_, m, h1⟩
    · exact absurd ⟨by omega, by omega⟩ h1
    · rw [h1]; exact ⟨rfl, by simp⟩
  have hlen := htr.len
  rw [htr.eq S.t.C] at hg1
  have hg2 : ∀ (k : Nat), k < l.length → ∀ W, PWK w q v tv S b T V (tabOf true S) W → Calls Tryz.prog 34 #[.pointer (some ⟨b, 0, none⟩), .int .i64 (l.getD k 0), .int .i64 x] W (GoPost (l.drop k, Wk.csum S.t.C (l.drop k), e0) W) := fun k hk W h => by
    have := hg2 k hk W h
    rw [htr.drop S.t.C hk] at this
    exact this
  have hC := HOK.out.str.ok.cost
  clear htr
  obtain ⟨hhd, hl0⟩ := hhd
  rw [hcs] at hg1
  clear hcs
  have HG1 := Lib.hid hg1; clear hg1; have HG2 := Lib.hid hg2; clear hg2; have HLINK := Lib.hid hlink; clear hlink; have HBD := Lib.hid hbd; clear hbd; have HHD := Lib.hid hhd; clear hhd; have HC := Lib.hid hC; clear hC
  go_wp2_with fail
  refine HG1.out.mono ?_
  rintro e1 w5 ⟨nv, rfl, hsl, hf⟩
  obtain ⟨al5, nc5, rfl, hr5, jj, hcap0, hcap, hcapm, jj2⟩ := ownsRow_rd hsl
  have H5 := Lib.hid (H3.out.keep hf)
  clear H3 HG1 hf hr5 jj hcap0 jj2
  dsimp only at hsl ⊢
  have HSL := Lib.hid hsl; clear hsl
  go_upto_region 8 with fail
  refine wp_name fun w7 hw7 => ?_
  have d0 : w7.cell? ⟨w5.heap.size, 0, none⟩ = some (.slice al5 l.length nc5) := by rw [hw7]; simp
  have d1 : w7.cell? ⟨w5.heap.size, 1, none⟩ = some (.int .i64 (Nt.psum S.t.C l (l.length - 1))) := by rw [hw7]; simp
  have d2 : w7.cell? ⟨w5.heap.size, 2, none⟩ = some (.int .i64 e0) := by rw [hw7]; simp
  have hF : Fr NoB w5 w7 := by rw [hw7]; (repeat (first | exact Fr.refl _ _ | refine Fr.alloc ?_ _ | refine Fr.setNew ?_ (by omega) _ _ | refine Fr.drewN ?_ _ | refine Fr.drew ?_))
  clear hw7
  have h7 : LkK w q v tv S b T V (tabOf true S) w5.heap.size al5 nc5 l (Nt.psum S.t.C l (l.length - 1)) e0 w3.heap.size w7 := ⟨H5.out.keep hF, d0, d1, d2, own_keep HSL.out hF (fun _ _ h => h)⟩
  clear H5 HSL hF d0 d1 d2
  generalize w5.heap.size = z at *
  generalize w3.heap.size = base at *
  have d0 := h7.d0
  have H := Lib.hid h7; clear h7
  go_wp2_with fail
  refine (RNode_yes _ _ (by omega) (by omega)).mono ?_; rintro e w' ⟨rfl, rfl⟩
  go_wp2
  clear d0
  go_loopg [12, 13] (l.length - 1) (fun g s i wr => LkRel1 w q v tv S b T V (tabOf true S) z al5 nc5 l (Nt.psum S.t.C l (l.length - 1)) e0 base g s i wr)
  case atStart => exact ⟨0, by omega, by omega, rfl, rfl, H.out⟩
  case round =>
    clear H
    obtain ⟨k, hk, hgk, rfl, rfl, h2⟩ := hrel
    have HGK := Lib.hid hgk; clear hgk
    have d0 := h2.d0
    have H := Lib.hid h2; clear h2
    have hps := HBD.out k (by omega)
    by_cases hkl : k + 1 < l.length
    · obtain ⟨p, p', hp, hp', ea, eb, hc⟩ := HLINK.out k hkl
      obtain ⟨g, rfl, ca⟩ := Sl.at H.out.sl (k := k) (by omega)
      obtain ⟨g', e', cb⟩ := Sl.at H.out.sl (k := k + 1) hkl
      cases e'
      have hnext : Nt.psum S.t.C l (k + 1) = Nt.psum S.t.C l k + S.t.C p p' := by rw [Nt.psum, ea, eb, Int.toNat_natCast, Int.toNat_natCast]
      rw [ea] at ca
      rw [eb] at cb
      have hc15 := HC.out.hi p p' hp hp'
      have hc00 := HC.out.lo p p' hp hp'
      have hsum := IntWalk.i64_in (Nt.psum S.t.C l k + S.t.C p p') (by omega)
      have hsub : IntKind.i64.wrap ((k : Int) + 1 - 1) = (k : Int) := by rw [IntWalk.i64_in _ (by omega)]; omega
      have hsub2 : IntKind.i64.wrap (k : Int) = (k : Int) := IntWalk.i64_in _ (by omega)
      have hki : (k : Int) < (l.length : Int) := by omega
      have hkb : ((k + 1 : Nat) : Int) < (l.length : Int) := by omega
      have p0 := H.out.k.p.p0
      have nn0 := H.out.k.p.net.c0
      have hcn : S.t.C p p' ≠ 0 := fun e => by rw [e] at hc; exact absurd hc (by decide)
      have hcz : (S.t.C p p' == 0) = false := by simpa using hcn
      clear hcn
      clear ea eb hc00
      generalize hP : Nt.psum S.t.C l k = P at *
      clear hP
      have hlk := fun W (h : PWK w q v tv S b T V (tabOf true S) W) => Cost_s q.x.L p p' S.t.C W hp hp' h.p.net.links
      generalize S.t.C p p' = cpp at *
      have HNX := Lib.hid hnext; clear hnext; have HPS := Lib.hid hps; clear hps; have HC15 := Lib.hid hc15; clear hc15; have HLK := Lib.hid hlk; clear hlk
      go_wp2_with fail
      go_quiet ((go_at_call 37; exact Calls.quiet_of_same (HLK.out _ (by exact H.out.k.keep ((Fr.refl _ _).drewN _)))))
      go_wp2
      clear hsub hsub2
      go_roundg (l.length - (k + 1 + 1))
      case rel => exact ⟨k + 1, by omega, rfl, by rw [HNX.out], (by first | go_num | exact congrArg (Value.int .i64) (by unfold wrap64; omega)), H.out.keep ((Fr.refl _ _).drewN _)⟩
      case measure => have := HGK.out; omega
    · have hkb : decide (((k + 1 : Nat) : Int) < (l.length : Int)) = false := by simp; omega
      have hlk : l.length - 1 = k := by omega
      obtain ⟨g, rfl, ca⟩ := Sl.at H.out.sl (k := 0) (by omega)
      rw [HHD.out] at ca
      have d1 := H.out.d1
      rw [hlk] at d1
      have hln : (l.length : Int) ≠ 0 := by omega
      have hlb : ((l.length : Int) == 0) = false := beq_false_of_ne hln
      have hle : ¬ l = [] := fun e => by rw [e] at hl0; simp at hl0
      have hpp : (Nt.psum S.t.C l k != Nt.psum S.t.C l k) = false := by simp
      have hss : ((src : Int) != (src : Int)) = false := by simp
      have hl0i : (0 : Int) < (l.length : Int) := by omega
      clear hps hlk
      go_wp2
      clear hlb hln hle hpp hss hl0i d0 d1 ca
      go_loopg [15] l.length (fun gk i wr => LkRel2 w q v tv S b T V (tabOf true S) z (some ⟨g, 0, none⟩) nc5 l (Nt.psum S.t.C l (l.length - 1)) e0 base gk i wr)
      case atStart => exact ⟨0, by omega, by omega, rfl, H.out⟩
      case round =>
        clear H
        obtain ⟨k, hk, hgk, rfl, h2⟩ := hrel
        have HGK := Lib.hid hgk; clear hgk
        have d0 := h2.d0
        have H := Lib.hid h2; clear h2
        by_cases hkl : k < l.length
        · obtain ⟨g', e', cb⟩ := Sl.at H.out.sl (k := k) hkl
          cases e'
          have hki : (k : Int) < (l.length : Int) := by omega
          have hg3 := HG2.out k hkl
          have hdl : (l.drop k).length = l.length - k := List.length_drop
          generalize hlk : l.getD k 0 = p at *
          generalize Wk.csum S.t.C (l.drop k) = ck at *
          clear hlk
          have HG3 := Lib.hid hg3; clear hg3
          go_wp2_with fail
          refine (HG3.out _ H.out.k).mono ?_
          rintro e1 w8 ⟨nv, rfl, hsl, hf⟩
          obtain ⟨al8, nc8, rfl, hr8, jj⟩ := hsl.rd
          have H8 := Lib.hid (H.out.keep hf)
          clear H HG3 hf hsl jj cb d0
          dsimp only at hr8 ⊢
          rw [hdl] at hr8 ⊢
          have HR8 := Lib.hid hr8; clear hr8
          go_upto_region 24 with fail
          refine wp_name fun w9 hw9 => ?_
          have f0 : w9.cell? ⟨w8.heap.size, 0, none⟩ = some (.slice al8 (l.length - k) nc8) := by rw [hw9]; simp
          have f2 : w9.cell? ⟨w8.heap.size, 2, none⟩ = some (.int .i64 e0) := by rw [hw9]; simp
          have hF : Fr NoB w8 w9 := by rw [hw9]; (repeat (first | exact Fr.refl _ _ | refine Fr.alloc ?_ _ | refine Fr.setNew ?_ (by omega) _ _ | refine Fr.drewN ?_ _ | refine Fr.drew ?_))
          clear hw9
          have H9 := Lib.hid (H8.out.keep hF)
          have HR9 := Lib.hid (Rd.keep HR8.out hF (fun _ _ h => h))
          clear H8 HR8 hF
          generalize w8.heap.size = z8 at *
          have d0 := H9.out.d0
          have d2 := H9.out.d2
          have hee : (e0 != e0) = false := by simp
          have hk0 : (0 : Int) ≤ (k : Int) := by omega
          have hkc : (k : Int) ≤ (nc5 : Int) := by omega
          have hmc : ¬ (nc5 = k) := by omega
          have hmn : k ≤ l.length := by omega
          have hmw := IntWalk.i64_in (k : Int) (by omega)
          have hkl2 : (k : Int) ≤ (l.length : Int) := by omega
          have hlc : (l.length : Int) ≤ (nc5 : Int) := by omega
          have hrd2 : Hid (∀ W, Fr NoB w9 W → Rd W (some ⟨g, k, none⟩) (l.length - k) (fun i => (l.drop k).getD i 0)) := fun W hW i hi => by
            obtain ⟨g2, e2, ci⟩ := Sl.at (own_keep H9.out.sl hW (fun _ _ h => h)) (k := k + i) (by omega)
            cases e2
            refine ⟨g, k, rfl, ?_⟩
            rw [ci]
            have : l.getD (k + i) 0 = (l.drop k).getD i 0 := by simp [List.getD_eq_getElem?_getD]
            rw [this]
          have HRD2 := hrd2
          clear hrd2
          go_wp2_with fail
          (refine wp_region_held_drew (S := (fun W => W.cell? ⟨z8, 0, none⟩ = some (.slice al8 (l.length - k) nc8) ∧ W.cell? ⟨z8, 2, none⟩ = some (.int .i64 e0) ∧ W.cell? ⟨z, 0, none⟩ = some (.slice (some ⟨g, 0, none⟩) l.length nc5) ∧ W.cell? ⟨z, 2, none⟩ = some (.int .i64 e0))) (by kernel_rfl) ⟨f0, f2, d0, d2⟩ (fun hHeld => ?_))
          (refine wpAnyH_take (i := 0) (v := ?_) (by simp only [List.getElem?_toArray, List.getElem?_cons_zero]; rfl) (by kernel_rfl) (by kernel_rfl) (by kernel_rfl) (by exact fun _ _ _ h => h) (Or.inl ⟨by rfl, ?_⟩) hHeld ?_; rotate_left; (focus (intro w hSw; (try dsimp only at hSw); go_simp; all_goals with_reducible rfl)); (try simp only [Act.put, List.setIfInBounds_toArray, List.set_cons_zero, List.set_cons_succ])); (refine wpAnyH_take (i := 1) (v := ?_) (by simp only [List.getElem?_toArray, List.getElem?_cons_succ, List.getElem?_cons_zero]; rfl) (by kernel_rfl) (by kernel_rfl) (by kernel_rfl) (by exact fun _ _ _ h => h) (Or.inl ⟨by rfl, ?_⟩) hHeld ?_; rotate_left; (focus (intro w hSw; (try dsimp only at hSw); go_simp; all_goals with_reducible rfl)); (try simp only [Act.put, List.setIfInBounds_toArray, List.set_cons_zero, List.set_cons_succ])); (refine wpAnyH_take (i := 2) (v := ?_) (by simp only [List.getElem?_toArray, List.getElem?_cons_succ, List.getElem?_cons_zero]; rfl) (by kernel_rfl) (by kernel_rfl) (by kernel_rfl) (by exact fun _ _ _ h => h) (Or.inl ⟨by rfl, ?_⟩) hHeld ?_; rotate_left; (focus (intro w hSw; (try dsimp only at hSw); go_simp; all_goals with_reducible rfl)); (try simp only [Act.put, List.setIfInBounds_toArray, List.set_cons_zero, List.set_cons_succ])); (refine wpAnyH_take (i := 3) (v := ?_) (by simp only [List.getElem?_toArray, List.getElem?_cons_succ, List.getElem?_cons_zero]; rfl) (by kernel_rfl) (by kernel_rfl) (by kernel_rfl) (by exact fun _ _ _ h => h) (Or.inl ⟨by rfl, ?_⟩) hHeld ?_; rotate_left; (focus (intro w hSw; (try dsimp only at hSw); go_simp; all_goals with_reducible rfl)); (try simp only [Act.put, List.setIfInBounds_toArray, List.set_cons_zero, List.set_cons_succ])); (refine wpAnyH_take (i := 4) (v := ?_) (by simp only [List.getElem?_toArray, List.getElem?_cons_succ, List.getElem?_cons_zero]; rfl) (by kernel_rfl) (by kernel_rfl) (by kernel_rfl) (by exact fun _ _ _ h => h) (Or.inl ⟨by rfl, ?_⟩) hHeld ?_; rotate_left; (focus (intro w hSw; (try dsimp only at hSw); go_simp; all_goals with_reducible rfl)); (try simp only [Act.put, List.setIfInBounds_toArray, List.set_cons_zero, List.set_cons_succ])); (refine wpAnyH_take (i := 5) (v := ?_) (by simp only [List.getElem?_toArray, List.getElem?_cons_succ, List.getElem?_cons_zero]; rfl) (by kernel_rfl) (by kernel_rfl) (by kernel_rfl) (by exact fun _ _ _ h => h) (Or.inl ⟨by rfl, ?_⟩) hHeld ?_; rotate_left; (focus (intro w hSw; (try dsimp only at hSw); go_simp; all_goals with_reducible rfl)); (try simp only [Act.put, List.setIfInBounds_toArray, List.set_cons_zero, List.set_cons_succ])); (refine wpAnyH_take (i := 6) (v := ?_) (by simp only [List.getElem?_toArray, List.getElem?_cons_succ, List.getElem?_cons_zero]; rfl) (by kernel_rfl) (by kernel_rfl) (by kernel_rfl) (by exact fun _ _ _ h => h) (Or.inl ⟨by rfl, ?_⟩) hHeld ?_; rotate_left; (focus (intro w hSw; (try dsimp only at hSw); go_simp; all_goals with_reducible rfl)); (try simp only [Act.put, List.setIfInBounds_toArray, List.set_cons_zero, List.set_cons_succ])); (refine wpAnyH_take (i := 7) (v := ?_) (by simp only [List.getElem?_toArray, List.getElem?_cons_succ, List.getElem?_cons_zero]; rfl) (by kernel_rfl) (by kernel_rfl) (by kernel_rfl) (by exact fun _ _ _ h => h) (Or.inl ⟨by rfl, ?_⟩) hHeld ?_; rotate_left; (focus (intro w hSw; (try dsimp only at hSw); go_simp; all_goals with_reducible rfl)); (try simp only [Act.put, List.setIfInBounds_toArray, List.set_cons_zero, List.set_cons_succ])); (refine wpAnyH_take (i := 8) (v := ?_) (by simp only [List.getElem?_toArray, List.getElem?_cons_succ, List.getElem?_cons_zero]; rfl) (by kernel_rfl) (by kernel_rfl) (by kernel_rfl) (by exact fun _ _ _ h => h) (Or.inl ⟨by rfl, ?_⟩) hHeld ?_; rotate_left; (focus (intro w hSw; (try dsimp only at hSw); go_simp; all_goals with_reducible rfl)); (try simp only [Act.put, List.setIfInBounds_toArray, List.set_cons_zero, List.set_cons_succ])); (refine wpAnyH_take (i := 9) (v := ?_) (by simp only [List.getElem?_toArray, List.getElem?_cons_succ, List.getElem?_cons_zero]; rfl) (by kernel_rfl) (by kernel_rfl) (by kernel_rfl) (by exact fun _ _ _ h => h) (Or.inl ⟨by rfl, ?_⟩) hHeld ?_; rotate_left; (focus (intro w hSw; (try dsimp only at hSw); go_simp; all_goals with_reducible rfl)); (try simp only [Act.put, List.setIfInBounds_toArray, List.set_cons_zero, List.set_cons_succ])); (refine wpAnyH_take (i := 10) (v := ?_) (by simp only [List.getElem?_toArray, List.getElem?_cons_succ, List.getElem?_cons_zero]; rfl) (by kernel_rfl) (by kernel_rfl) (by kernel_rfl) (by exact fun _ _ _ h => h) (Or.inl ⟨by rfl, ?_⟩) hHeld ?_; rotate_left; (focus (intro w hSw; (try dsimp only at hSw); go_simp; all_goals with_reducible rfl)); (try simp only [Act.put, List.setIfInBounds_toArray, List.set_cons_zero, List.set_cons_succ])); (refine wpAnyH_take (i := 11) (v := ?_) (by simp only [List.getElem?_toArray, List.getElem?_cons_succ, List.getElem?_cons_zero]; rfl) (by kernel_rfl) (by kernel_rfl) (by kernel_rfl) (by exact fun _ _ _ h => h) (Or.inl ⟨by rfl, ?_⟩) hHeld ?_; rotate_left; (focus (intro w hSw; (try dsimp only at hSw); go_simp; all_goals with_reducible rfl)); (try simp only [Act.put, List.setIfInBounds_toArray, List.set_cons_zero, List.set_cons_succ]))
          (refine wpAnyH_ready (rs := [12]) (by kernel_rfl) (by simp) ?_; refine AllReadyH.cons (by simp only [List.getElem?_toArray, List.getElem?_cons_succ, List.getElem?_cons_zero]; rfl) (fun K hK => ?_) AllReadyH.nil; go_simp); (refine (SameI_self al8 (some ⟨g, k, none⟩) (l.length - k) nc8 (nc5 - k) (fun i => (l.drop k).getD i 0) _ (by omega) (by exact HR9.out) (by exact HRD2.out _ (Fr.refl _ _).drew)).mono ?_; rintro e1 w10 ⟨rfl, hf⟩; have hf := (Fr.refl NoB w9).drew.trans hf; have g0 := cell_fr' hf f0 (fun h => h); have g2 := cell_fr' hf f2 (fun h => h); have i0 := cell_fr' hf d0 (fun h => h); have i2 := cell_fr' hf d2 (fun h => h); have H10 := Lib.hid (H9.out.keep hf); clear hf); (try go_wp2_with fail); (refine hK.out _ _ ⟨g0, g2, i0, i2⟩ (fun hHeld => ?_)); clear hK K; (try simp only [Act.put, List.setIfInBounds_toArray, List.set_cons_zero, List.set_cons_succ])
          (refine wpAnyH_take (i := 13) (v := ?_) (by simp only [List.getElem?_toArray, List.getElem?_cons_succ, List.getElem?_cons_zero]; rfl) (by kernel_rfl) (by kernel_rfl) (by kernel_rfl) (by exact fun _ _ _ h => h) (Or.inl ⟨by rfl, ?_⟩) hHeld ?_; rotate_left; (focus (intro w hSw; (try dsimp only at hSw); go_simp; all_goals with_reducible rfl)); (try simp only [Act.put, List.setIfInBounds_toArray, List.set_cons_zero, List.set_cons_succ])); (refine wpAnyH_take (i := 14) (v := ?_) (by simp only [List.getElem?_toArray, List.getElem?_cons_succ, List.getElem?_cons_zero]; rfl) (by kernel_rfl) (by kernel_rfl) (by kernel_rfl) (by exact fun _ _ _ h => h) (Or.inl ⟨by rfl, ?_⟩) hHeld ?_; rotate_left; (focus (intro w hSw; (try dsimp only at hSw); go_simp; all_goals with_reducible rfl)); (try simp only [Act.put, List.setIfInBounds_toArray, List.set_cons_zero, List.set_cons_succ]))
          (refine wpAnyH_done (by kernel_rfl) ?_ _)
          clear g0 g2 i0 i2 H9
          clear d0 d2 f0 f2 HR9 HRD2
          go_wp2
          go_roundg (l.length - (k + 1))
          case rel => exact ⟨k + 1, by omega, rfl, by go_num, H10.out⟩
          case measure => have := HGK.out; omega
        · have hkb : decide ((k : Int) < (l.length : Int)) = false := by simp; omega
          go_wp2
          go_ret
          exact ⟨rfl, H.out.k.f⟩
set_option maxRecDepth 100000 in
set_option maxHeartbeats 8000000 in
theorem WalkLinks_off (a0 : Option Addr) (n0 c0 : Nat) (X0 : Nat → Int) (src : Int) (x : Int) (w : World) (hn0 : n0 ≤ 150) (hsrc : ¬ Nt.isN src) (r0 : Rd w a0 (n0 * 6) X0) :
    Calls Tryz.prog 9 #[.slice a0 n0 c0, .int .i64 src, .int .i64 x] w (TrueFr w) := by
  have hnb : decide ((150 : Int) < (n0 : Int)) = false := by simp; omega
  have R0 := Lib.hid r0; clear r0; have HSRC := Lib.hid hsrc; clear hsrc
  go_enter Tryz.func9, Tryz.ntmps9
  go_wp2_with fail
  refine (walkBegun_true _).mono ?_
  rintro e w1 ⟨rfl, hf1⟩
  have HF1 := Lib.hid hf1; clear hf1
  go_wp2_with fail
  refine (posts_any a0 n0 c0 X0 _ (by omega) (Rd.keep R0.out HF1.out (fun _ _ h => h))).mono ?_
  rintro e w2 ⟨q, v, tv, y, u, al, rfl, h2⟩
  have hok := Fb.POk.runF Fb.POk.begun X0 n0
  have h3 : PK w q v tv (Fb.runF Fb.begunP X0 n0) w2 := ⟨h2.p.at_, HF1.out.trans h2.p.f⟩
  clear h2 HF1 R0
  generalize Fb.runF Fb.begunP X0 n0 = S at *
  have HOK := Lib.hid hok; clear hok; have H := Lib.hid h3; clear h3
  go_wp2_with fail
  refine (NewW true q v tv S _ _ HOK.out H.out.at_).mono ?_
  rintro e w3 ⟨b, T, V, rfl, hw, hf, _⟩
  have H3 : Hid (PWK w q v tv S b T V (tabOf true S) w3) := ⟨H.out.at_.keep0 hf, hw, H.out.f.trans hf⟩
  clear H hf hw
  have hg1 := WGo_tab HOK.out HOK.out src x w3 H3.out.k H3.out.p
  rw [Wk.trip_off _ _ HSRC.out] at hg1
  have HG1 := Lib.hid hg1; clear hg1
  go_wp2_with fail
  refine HG1.out.mono ?_
  rintro e1 w5 ⟨nv, rfl, hsl, hf⟩
  obtain ⟨al5, nc5, rfl, jj⟩ := ownsRow_rd hsl
  have H5 := Lib.hid (H3.out.f.trans hf)
  clear H3 HG1 hf jj hsl
  have hl0 : ([] : List Int).length = 0 := rfl
  rw [hl0]
  clear hl0
  dsimp only
  go_upto_region 8 with fail
  refine wp_name fun w7 hw7 => ?_
  have d0 : w7.cell? ⟨w5.heap.size, 0, none⟩ = some (.slice al5 0 nc5) := by rw [hw7]; simp
  have d1 : w7.cell? ⟨w5.heap.size, 1, none⟩ = some (.int .i64 0) := by rw [hw7]; simp
  have d2 : w7.cell? ⟨w5.heap.size, 2, none⟩ = some (.int .i64 (-1)) := by rw [hw7]; simp
  have hF : Fr NoB w5 w7 := by rw [hw7]; (repeat (first | exact Fr.refl _ _ | refine Fr.alloc ?_ _ | refine Fr.setNew ?_ (by omega) _ _ | refine Fr.drewN ?_ _ | refine Fr.drew ?_))
  clear hw7
  have H7 := Lib.hid (H5.out.trans hF)
  clear H5 hF
  generalize w5.heap.size = z at *
  go_wp2_with fail
  refine (RNode_no _ _ HSRC.out).mono ?_; rintro e w' ⟨rfl, rfl⟩
  go_wp2
  go_ret
  exact ⟨rfl, H7.out⟩
set_option maxRecDepth 100000 in
set_option maxHeartbeats 2000000 in
theorem WalkLinks_all (a0 : Option Addr) (n0 c0 : Nat) (X0 : Nat → Int) (a1 a2 : Int) (w : World) (r0 : Rd w a0 (n0 * 6) X0) :
    Calls Tryz.prog 9 #[.slice a0 n0 c0, .int .i64 a1, .int .i64 a2] w (TrueFr w) := by
  by_cases hn : n0 ≤ 150
  · by_cases hr : Nt.isN a1
    · obtain ⟨n, rfl⟩ := Int.eq_ofNat_of_zero_le hr.1
      exact WalkLinks_main a0 n0 c0 X0 n a2 w hn (by have := hr.2; omega) r0
    · exact WalkLinks_off a0 n0 c0 X0 a1 a2 w hn hr r0
  · clear r0
    have hnb : decide ((150 : Int) < (n0 : Int)) = true := by simp; omega
    go_enter Tryz.func9, Tryz.ntmps9
    go_wp2_with fail
    refine (walkBegun_true _).mono ?_
    rintro e w1 ⟨rfl, hF⟩
    have HF := Lib.hid hF; clear hF
    go_wp2
    go_ret
    exact ⟨rfl, HF.out⟩
end Go.Proofs.YteedndapbfihaaaGreat
