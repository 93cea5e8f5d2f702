/- Walks: Get, GetOf, Look (of both), SameRoutes. -/
import Derived.Test.YteedndapbfihaaaGreatB20
namespace Go.Proofs.YteedndapbfihaaaGreat
open Go.RowKit Go.Deep

set_option maxRecDepth 100000 in
set_option maxHeartbeats 4000000 in
theorem Get_any (t : Nat) (a : Option Addr) (c : Nat) (L : List Tb.Rt) (l b : Int) (w : World) (hl : L.length ≤ 1000) (hw : Tb.Wf L) (ha : Rs w a L) (hc : w.cell? ⟨t, 0, none⟩ = some (.slice a L.length c)) :
    Calls Tryz.prog 27 #[.pointer (some ⟨t, 0, none⟩), .agg #[.int .i64 l, .int .i64 b]] w (IntFr (Tb.get L ⟨l, b⟩) w) := by
  have HA := Lib.hid ha; clear ha; have HW := Lib.hid hw; clear hw
  by_cases hg : Tb.get L ⟨l, b⟩ = -2
  · have E := Lib.hid (ret_int (k := .i64) hg.symm)
    have hd := decide_eq_false (show ¬ Tb.get L ⟨l, b⟩ ≠ -2 from fun h => h hg)
    have HD := Lib.hid hd; clear hd
    clear hg
    go_enter Tryz.func27, Tryz.ntmps27
    go_wp2_with fail
    refine (at_any t a c L l b _ hl HW.out (HA.out.keep0 ((Fr.refl _ _).alloc _)) (cell_fr' ((Fr.refl NoB w).alloc _) hc (fun h => h))).mono ?_
    unfold AtPost
    rw [HD.out]
    rintro e w2 ⟨rfl, hf⟩
    have HF := Lib.hid (((Fr.refl NoB w).alloc _).trans hf)
    clear hf
    go_wp2
    go_ret
    exact ⟨E.out, HF.out⟩
  · have hd := decide_eq_true (show Tb.get L ⟨l, b⟩ ≠ -2 from hg)
    obtain ⟨hok, hlt, hn, _, _⟩ := Tb.found_nth HW.out hg
    have hdo := decide_eq_true hok
    obtain ⟨b0, o0, rfl, _, _, c2⟩ := HA.out (Tb.lo L ⟨l, b⟩).length hlt
    rw [hn] at c2
    dsimp only at c2
    generalize hie : (Tb.lo L ⟨l, b⟩).length = i at *
    have HIE := Lib.hid hie; clear hie
    generalize hgv : Tb.get L ⟨l, b⟩ = gv at *
    have hli : (i : Int) < (L.length : Int) := by omega
    have HD := Lib.hid hd; clear hd; have HDO := Lib.hid hdo; clear hdo; have HOK := Lib.hid hok; clear hok; have HN := Lib.hid hn; clear hn
    clear hg
    go_enter Tryz.func27, Tryz.ntmps27
    go_upto_region 1 with fail
    refine wp_name fun w1 hw1 => ?_
    have c0 : w1.cell? ⟨w.heap.size, 0, none⟩ = some (.int .i64 l) := by rw [hw1]; simp
    have c1 : w1.cell? ⟨w.heap.size, 1, none⟩ = some (.int .i64 b) := by rw [hw1]; simp
    have hF : Fr NoB w w1 := by rw [hw1]; (repeat (first | exact Fr.refl _ _ | refine Fr.alloc ?_ _ | refine Fr.setNew ?_ (by omega) _ _ | refine Fr.drewN ?_ _ | refine Fr.drew ?_))
    have hc := cell_fr' hF hc (fun h => h)
    have c2 := cell_fr' hF c2 (fun h => h)
    clear hw1
    have HF := Lib.hid hF; clear hF; have HGV := Lib.hid hgv; clear hgv
    go_wp2_with fail
    refine (at_any t _ c L l b _ hl HW.out (HA.out.keep0 HF.out) hc).mono ?_
    unfold AtPost
    rw [HGV.out, HD.out, HIE.out]
    rintro e w2 ⟨rfl, hf⟩
    have c0 := cell_fr' hf c0 (fun h => h)
    have c1 := cell_fr' hf c1 (fun h => h)
    have hc := cell_fr' hf hc (fun h => h)
    have c2 := cell_fr' hf c2 (fun h => h)
    have HF1 := Lib.hid (HF.out.trans hf)
    clear hf
    go_wp2_with fail
    refine (Check_any l b _).mono ?_
    rw [HDO.out]
    rintro e w3 ⟨rfl, hf⟩
    have hc := cell_fr' hf hc (fun h => h)
    have c2 := cell_fr' hf c2 (fun h => h)
    have HF2 := Lib.hid (HF1.out.trans hf)
    clear hf
    go_wp2
    go_ret
    exact ⟨rfl, HF2.out⟩

def GoRel (L : List Tb.Rt) (p : Tb.Pf) (b : Nat) (w : World) (i : Value) (wr : World) : Prop :=
  ∃ k : Nat, k ≤ L.length ∧ i = .int .i64 k ∧ (∀ j, j < k → ¬ ((Tb.nth L j).p = p ∧ Tb.ok p)) ∧ wr.cell? ⟨b, 0, none⟩ = some (.int .i64 p.len) ∧ wr.cell? ⟨b, 1, none⟩ = some (.int .i64 p.bits) ∧ Fr NoB w wr
theorem get_at {L : List Tb.Rt} {p : Tb.Pf} {k : Nat} (hk : k < L.length) (h : ∀ j, j < k → ¬ ((Tb.nth L j).p = p ∧ Tb.ok p)) (h1 : (Tb.nth L k).p = p) (h2 : Tb.ok p) : Tb.get L p = (Tb.nth L k).hop := by
  conv => lhs; rw [← List.take_append_drop k L]
  rw [Tb.get_skip (fun r hr => by
    obtain ⟨j, hj, rfl⟩ := List.getElem_of_mem hr
    have := h j (by simp at hj; omega)
    rw [Tb.nth_eq (by simp at hj; omega)] at this
    simpa using this), List.drop_eq_getElem_cons hk, ← Tb.nth_eq hk]
  show (if (Tb.nth L k).p = p ∧ Tb.ok p then (Tb.nth L k).hop else _) = _
  rw [if_pos ⟨h1, h2⟩]
theorem get_end {L : List Tb.Rt} {p : Tb.Pf} {k : Nat} (hk : ¬ k < L.length) (h : ∀ j, j < k → ¬ ((Tb.nth L j).p = p ∧ Tb.ok p)) : Tb.get L p = -2 := by
  conv => lhs; rw [← List.append_nil L]
  rw [Tb.get_skip (fun r hr => by
    obtain ⟨j, hj, rfl⟩ := List.getElem_of_mem hr
    have := h j (by omega)
    rw [Tb.nth_eq hj] at this
    exact this)]
  rfl
set_option maxRecDepth 100000 in
set_option maxHeartbeats 4000000 in
theorem GetOf_any (a : Option Addr) (c : Nat) (L : List Tb.Rt) (l b : Int) (w : World) (hl : L.length ≤ 1000) (ha : Rs w a L) :
    Calls Tryz.prog 99 #[.slice a L.length c, .agg #[.int .i64 l, .int .i64 b]] w (IntFr (Tb.get L ⟨l, b⟩) w) := by
  have HA := Lib.hid ha; clear ha
  go_enter Tryz.func99, Tryz.ntmps99
  go_wp2
  go_loopw [5] (fun i wr => GoRel L ⟨l, b⟩ w.heap.size w i wr) (fun i _ => L.length - (intOf i).toNat)
  case atStart => exact ⟨0, by omega, rfl, fun j hj => by omega, box0 .., box1 .., (Fr.refl _ _).alloc _⟩
  case round =>
    obtain ⟨k, hk, rfl, hno, p0, p1, hf⟩ := hrel
    dsimp only at p0 p1
    have HNO := Lib.hid hno; clear hno; have HF := Lib.hid hf; clear hf
    by_cases hkk : k < L.length
    · obtain ⟨b0, o0, rfl, c0, c1, c2⟩ := (HA.out.keep0 HF.out) k hkk
      generalize hr : Tb.nth L k = r at *
      obtain ⟨⟨x, y⟩, z⟩ := r
      dsimp only at c0 c1 c2
      have HR := Lib.hid hr; clear hr
      have hki : (k : Int) < (L.length : Int) := by omega
      by_cases q1 : x = l ∧ y = b
      · obtain ⟨rfl, rfl⟩ := q1
        by_cases hok : Tb.ok ⟨x, y⟩
        · have hd := decide_eq_true hok
          have E := Lib.hid (ret_int (k := .i64) (get_at hkk HNO.out (by rw [HR.out]) hok).symm)
          rw [HR.out] at E
          dsimp only at E
          have HD := Lib.hid hd; clear hd; have HOK := Lib.hid hok; clear hok
          go_wp2
          go_region_held3 (fun W => W.cell? ⟨b0, o0 + k * 3, none⟩ = some (.int .i64 x) ∧ W.cell? ⟨b0, o0 + k * 3 + 1, none⟩ = some (.int .i64 y) ∧ W.cell? ⟨w.heap.size, 0, none⟩ = some (.int .i64 x) ∧ W.cell? ⟨w.heap.size, 1, none⟩ = some (.int .i64 y))
            (first | exact ⟨s0, s1, t0, t1⟩ | exact ⟨c0, c1, p0, p1⟩)
            (first | (go_at_call 57; have hh := HF.out; clear hh; go_must (refine (IsPrefix_any _ _ _).mono ?_); go_must (rw [HD.out]); go_must (rintro e w2 ⟨rfl, hf⟩); go_must (have s0 := cell_fr' hf c0 (fun h => h)); go_must (have s1 := cell_fr' hf c1 (fun h => h)); go_must (have s2 := cell_fr' hf c2 (fun h => h)); go_must (have t0 := cell_fr' hf p0 (fun h => h)); go_must (have t1 := cell_fr' hf p1 (fun h => h)); go_must (have HF1 := Lib.hid (HF.out.drew.trans hf)); go_must (clear hf)))
          all_goals (
            go_wp2
            go_ret
            exact ⟨E.out, HF1.out⟩)
        · have hd := decide_eq_false hok
          have HD := Lib.hid hd; clear hd; have HOK := Lib.hid hok; clear hok
          go_wp2
          go_region_held3 (fun W => W.cell? ⟨b0, o0 + k * 3, none⟩ = some (.int .i64 x) ∧ W.cell? ⟨b0, o0 + k * 3 + 1, none⟩ = some (.int .i64 y) ∧ W.cell? ⟨w.heap.size, 0, none⟩ = some (.int .i64 x) ∧ W.cell? ⟨w.heap.size, 1, none⟩ = some (.int .i64 y))
            (first | exact ⟨s0, s1, t0, t1⟩ | exact ⟨c0, c1, p0, p1⟩)
            (first | (go_at_call 57; have hh := HF.out; clear hh; go_must (refine (IsPrefix_any _ _ _).mono ?_); go_must (rw [HD.out]); go_must (rintro e w2 ⟨rfl, hf⟩); go_must (have s0 := cell_fr' hf c0 (fun h => h)); go_must (have s1 := cell_fr' hf c1 (fun h => h)); go_must (have s2 := cell_fr' hf c2 (fun h => h)); go_must (have t0 := cell_fr' hf p0 (fun h => h)); go_must (have t1 := cell_fr' hf p1 (fun h => h)); go_must (have HF1 := Lib.hid (HF.out.drew.trans hf)); go_must (clear hf)))
          all_goals (
            go_wp2
            go_roundw
            case rel => exact ⟨k + 1, by omega, by go_num, fun j hj => by
              by_cases e : j = k
              · exact fun h => HOK.out h.2
              · exact HNO.out j (by omega), t0, t1, HF1.out⟩
            case measure => simp [intOf]; omega)
      · have hne : ∀ j, j < k + 1 → ¬ ((Tb.nth L j).p = ⟨l, b⟩ ∧ Tb.ok ⟨l, b⟩) := fun j hj => by
          by_cases e : j = k
          · rw [e, HR.out]
            intro h
            have h := h.1
            simp only [Tb.Pf.mk.injEq] at h
            exact q1 h
          · exact HNO.out j (by omega)
        have HNE := Lib.hid hne; clear hne
        by_cases q2 : x = l
        · have hb : (y == b) = false := by simp; exact fun h => q1 ⟨q2, h⟩
          clear q1 q2
          go_wp2
          go_quiet (fail)
          go_wp2
          go_roundw
          case rel => exact ⟨k + 1, by omega, by go_num, HNE.out, p0, p1, HF.out.drewN _⟩
          case measure => simp [intOf]; omega
        · have hb : (x == l) = false := by simpa using q2
          clear q1 q2
          go_wp2
          go_quiet (fail)
          go_wp2
          go_roundw
          case rel => exact ⟨k + 1, by omega, by go_num, HNE.out, p0, p1, HF.out.drewN _⟩
          case measure => simp [intOf]; omega
    · have E := Lib.hid (ret_int (k := .i64) (get_end hkk HNO.out).symm)
      go_wp2
      go_ret
      exact ⟨E.out, HF.out⟩

def LookRel (L : List Tb.Rt) (a : Int) (w : World) (h i : Value) (wr : World) : Prop := ∃ k : Nat, k ≤ L.length ∧ i = .int .i64 k ∧ h = .int .i64 (Tb.look (L.take k) a) ∧ Fr NoB w wr
set_option maxRecDepth 100000 in
set_option maxHeartbeats 4000000 in
theorem Look_any (t : Nat) (a : Option Addr) (c : Nat) (L : List Tb.Rt) (x : Int) (w : World) (hl : L.length ≤ 1000) (ha : Rs w a L) (hc : w.cell? ⟨t, 0, none⟩ = some (.slice a L.length c)) :
    Calls Tryz.prog 24 #[.pointer (some ⟨t, 0, none⟩), .int .i64 x] w (IntFr (Tb.look L x) w) := by
  have HA := Lib.hid ha; clear ha
  go_enter Tryz.func24, Tryz.ntmps24
  go_wp2
  go_loopw [5, 13] (fun h i wr => LookRel L x w h i wr) (fun _ i _ => L.length - (intOf i).toNat)
  case atStart => exact ⟨0, by omega, rfl, by rw [List.take_zero]; rfl, Fr.refl _ _⟩
  case round =>
    obtain ⟨k, hk, rfl, rfl, hf⟩ := hrel
    have HF := Lib.hid hf; clear hf
    by_cases hkk : k < L.length
    · obtain ⟨b0, o0, rfl, c0, c1, c2⟩ := (HA.out.keep0 HF.out) k hkk
      have hst : Tb.look (L.take (k + 1)) x = Tb.lookF x (Tb.look (L.take k) x) (Tb.nth L k) := by rw [Tb.take_succ hkk, Tb.look_app]
      generalize hr : Tb.nth L k = r at *
      obtain ⟨⟨l, b⟩, h⟩ := r
      dsimp only at c0 c1 c2
      have HST := Lib.hid hst; clear hst
      clear hr
      have hki : (k : Int) < (L.length : Int) := by omega
      go_upto_region 5 with fail
      refine wp_name fun w1 hw1 => ?_
      have d0 : w1.cell? ⟨wr.heap.size, 0, none⟩ = some (.int .i64 l) := by rw [hw1]; simp
      have d1 : w1.cell? ⟨wr.heap.size, 1, none⟩ = some (.int .i64 b) := by rw [hw1]; simp
      have d2 : w1.cell? ⟨wr.heap.size, 2, none⟩ = some (.int .i64 h) := by rw [hw1]; simp
      have hF : Fr NoB wr w1 := by rw [hw1]; (repeat (first | exact Fr.refl _ _ | refine Fr.alloc ?_ _ | refine Fr.setNew ?_ (by omega) _ _ | refine Fr.drewN ?_ _ | refine Fr.drew ?_))
      clear hw1 c0 c1 c2
      have HF1 := Lib.hid (HF.out.trans hF)
      clear hF
      by_cases hh : Tb.has ⟨l, b⟩ x
      · have hd := decide_eq_true hh
        have hst := HST.out
        unfold Tb.lookF at hst
        rw [if_pos hh] at hst
        dsimp only at hst
        clear HST
        have HD := Lib.hid hd; clear hd; have HH := Lib.hid hh; clear hh; have HST := Lib.hid hst; clear hst
        go_wp2_with fail
        refine (Has_any _ _ _ _).mono ?_
        rw [HD.out]
        rintro e w2 ⟨rfl, hf⟩
        have d2 := cell_fr' hf d2 (fun h => h)
        have HF2 := Lib.hid (HF1.out.trans hf)
        clear hf
        go_wp2
        go_roundw
        case rel => exact ⟨k + 1, by omega, by go_num, by rw [HST.out], HF2.out⟩
        case measure => simp [intOf]; omega
      · have hd := decide_eq_false hh
        have hst := HST.out
        unfold Tb.lookF at hst
        rw [if_neg hh] at hst
        clear HST
        have HD := Lib.hid hd; clear hd; have HH := Lib.hid hh; clear hh; have HST := Lib.hid hst; clear hst
        go_wp2_with fail
        refine (Has_any _ _ _ _).mono ?_
        rw [HD.out]
        rintro e w2 ⟨rfl, hf⟩
        have HF2 := Lib.hid (HF1.out.trans hf)
        clear hf
        go_wp2
        go_roundw
        case rel => exact ⟨k + 1, by omega, by go_num, by rw [HST.out], HF2.out⟩
        case measure => simp [intOf]; omega
    · have e : L.take k = L := List.take_of_length_le (by omega)
      rw [e]
      clear e
      go_wp2
      go_ret
      exact ⟨rfl, HF.out⟩

def LrRel (L : List Tb.Rt) (a : Int) (w : World) (h n i : Value) (wr : World) : Prop := ∃ k : Nat, k ≤ L.length ∧ i = .int .i64 k ∧ h = .int .i64 (Tb.lookR (L.take k) a).1 ∧ n = .int .i64 (Tb.lookR (L.take k) a).2 ∧ Fr NoB w wr
set_option maxRecDepth 100000 in
set_option maxHeartbeats 4000000 in
theorem RLook_any (a : Option Addr) (c : Nat) (L : List Tb.Rt) (x : Int) (w : World) (hl : L.length ≤ 1000) (ha : Rs w a L) :
    Calls Tryz.prog 17 #[.slice a L.length c, .int .i64 x] w (IntFr (Tb.lookR L x).1 w) := by
  have HA := Lib.hid ha; clear ha
  go_enter Tryz.func17, Tryz.ntmps17
  go_wp2
  go_loopw [5, 6, 7] (fun h n i wr => LrRel L x w h n i wr) (fun _ _ i _ => L.length - (intOf i).toNat)
  case atStart => exact ⟨0, by omega, rfl, by rw [List.take_zero]; rfl, by rw [List.take_zero]; rfl, Fr.refl _ _⟩
  case round =>
    obtain ⟨k, hk, rfl, rfl, rfl, hf⟩ := hrel
    have HF := Lib.hid hf; clear hf
    by_cases hkk : k < L.length
    · obtain ⟨b0, o0, rfl, c0, c1, c2⟩ := (HA.out.keep0 HF.out) k hkk
      have hst : Tb.lookR (L.take (k + 1)) x = Tb.lookG x (Tb.lookR (L.take k) x) (Tb.nth L k) := by rw [Tb.take_succ hkk, Tb.lookR_app]
      generalize hr : Tb.nth L k = r at *
      obtain ⟨⟨l, b⟩, h⟩ := r
      generalize Tb.lookR (L.take k) x = s at *
      obtain ⟨h0, n0⟩ := s
      dsimp only at c0 c1 c2
      clear hr
      unfold Tb.lookG at hst
      dsimp only at hst ⊢
      have hki : (k : Int) < (L.length : Int) := by omega
      by_cases hh : Tb.has ⟨l, b⟩ x
      · have hd := decide_eq_true hh
        by_cases hn : n0 < l
        · rw [if_pos ⟨hh, hn⟩] at hst
          have hnd := decide_eq_true hn
          have HD := Lib.hid hd; clear hd; have HH := Lib.hid hh; clear hh; have HST := Lib.hid hst; clear hst
          go_wp2_with fail
          refine (RHas_any _ _ _ _).mono ?_
          rw [HD.out]
          rintro e w2 ⟨rfl, hf⟩
          have c0 := cell_fr' hf c0 (fun h => h)
          have c2 := cell_fr' hf c2 (fun h => h)
          have HF2 := Lib.hid (HF.out.trans hf)
          clear hf
          go_wp2
          go_quiet (fail)
          go_wp2
          go_roundw
          case rel => exact ⟨k + 1, by omega, by go_num, by rw [HST.out], by rw [HST.out], HF2.out.drewN _⟩
          case measure => simp [intOf]; omega
        · rw [if_neg (fun h => hn h.2)] at hst
          have hnd := decide_eq_false hn
          have HD := Lib.hid hd; clear hd; have HH := Lib.hid hh; clear hh; have HST := Lib.hid hst; clear hst
          go_wp2_with fail
          refine (RHas_any _ _ _ _).mono ?_
          rw [HD.out]
          rintro e w2 ⟨rfl, hf⟩
          have c0 := cell_fr' hf c0 (fun h => h)
          have HF2 := Lib.hid (HF.out.trans hf)
          clear hf
          go_wp2
          go_roundw
          case rel => exact ⟨k + 1, by omega, by go_num, by rw [HST.out], by rw [HST.out], HF2.out⟩
          case measure => simp [intOf]; omega
      · have hd := decide_eq_false hh
        rw [if_neg (fun h => hh h.1)] at hst
        have HD := Lib.hid hd; clear hd; have HH := Lib.hid hh; clear hh; have HST := Lib.hid hst; clear hst
        go_wp2_with fail
        refine (RHas_any _ _ _ _).mono ?_
        rw [HD.out]
        rintro e w2 ⟨rfl, hf⟩
        have HF2 := Lib.hid (HF.out.trans hf)
        clear hf
        go_wp2
        go_roundw
        case rel => exact ⟨k + 1, by omega, by go_num, by rw [HST.out], by rw [HST.out], HF2.out⟩
        case measure => simp [intOf]; omega
    · have e : L.take k = L := List.take_of_length_le (by omega)
      rw [e]
      clear e
      go_wp2
      go_ret
      exact ⟨rfl, HF.out⟩

def SrRel (A B : List Tb.Rt) (w : World) (i : Value) (wr : World) : Prop := ∃ k : Nat, k ≤ A.length ∧ i = .int .i64 k ∧ (∀ j, j < k → Tb.nth A j = Tb.nth B j) ∧ Fr NoB w wr
theorem list_eq {A B : List Tb.Rt} (hl : A.length = B.length) (h : ∀ j, j < A.length → Tb.nth A j = Tb.nth B j) : A = B := by
  apply List.ext_getElem hl
  intro i h1 h2
  have := h i h1
  rwa [Tb.nth_eq h1, Tb.nth_eq h2] at this
set_option maxRecDepth 100000 in
set_option maxHeartbeats 4000000 in
theorem SameRoutes_any (a a' : Option Addr) (c c' : Nat) (A B : List Tb.Rt) (w : World) (hl : A.length ≤ 1000) (hl' : B.length ≤ 1000) (ha : Rs w a A) (hb : Rs w a' B) :
    Calls Tryz.prog 14 #[.slice a A.length c, .slice a' B.length c'] w (BoolFr (decide (A = B)) w) := by
  by_cases hlen : A.length = B.length
  · have hbl : ((A.length : Int) != (B.length : Int)) = false := by simp [hlen]
    have HA := Lib.hid ha; clear ha; have HB := Lib.hid hb; clear hb
    go_enter Tryz.func14, Tryz.ntmps14
    go_wp2
    go_loopw [5] (fun i wr => SrRel A B w i wr) (fun i _ => A.length - (intOf i).toNat)
    case atStart => exact ⟨0, by omega, rfl, fun j hj => by omega, Fr.refl _ _⟩
    case round =>
      obtain ⟨k, hk, rfl, heq, hf⟩ := hrel
      have HF := Lib.hid hf; clear hf; have HEQ := Lib.hid heq; clear heq
      by_cases hkk : k < A.length
      · obtain ⟨b0, o0, rfl, c0, c1, c2⟩ := (HA.out.keep0 HF.out) k hkk
        obtain ⟨b1, o1, rfl, d0, d1, d2⟩ := (HB.out.keep0 HF.out) k (by omega)
        generalize hr : Tb.nth A k = r at *
        obtain ⟨⟨l, b⟩, h⟩ := r
        generalize hs : Tb.nth B k = s at *
        obtain ⟨⟨m, d⟩, g⟩ := s
        dsimp only at c0 c1 c2 d0 d1 d2
        have HR := Lib.hid hr; have HS := Lib.hid hs
        clear hr hs
        have hki : (k : Int) < (A.length : Int) := by omega
        have hki' : (k : Int) < (B.length : Int) := by omega
        by_cases q : l = m ∧ b = d ∧ h = g
        · obtain ⟨rfl, rfl, rfl⟩ := q
          go_wp2
          go_quiet (fail)
          go_wp2
          go_roundw
          case rel => exact ⟨k + 1, by omega, by go_num, fun j hj => by
            by_cases e : j = k
            · rw [e, HR.out, HS.out]
            · exact HEQ.out j (by omega), HF.out.drewN _⟩
          case measure => simp [intOf]; omega
        · have hne : decide (A = B) = false := by
            rw [decide_eq_false_iff_not]
            rintro rfl
            have := HR.out.symm.trans HS.out
            simp only [Tb.Rt.mk.injEq, Tb.Pf.mk.injEq] at this
            exact q ⟨this.1.1, this.1.2, this.2⟩
          have E := Lib.hid (ret_bool hne.symm)
          clear hne
          by_cases q1 : l = m
          · by_cases q2 : b = d
            · have hb3 : (h == g) = false := by simp; exact fun e => q ⟨q1, q2, e⟩
              subst q1; subst q2
              clear q
              go_wp2
              go_quiet (fail)
              go_wp2
              go_ret
              exact ⟨E.out, HF.out.drewN _⟩
            · have hb3 : (b == d) = false := by simpa using q2
              clear q q1 q2
              go_wp2
              go_quiet (fail)
              go_wp2
              go_ret
              exact ⟨E.out, HF.out.drewN _⟩
          · have hb3 : (l == m) = false := by simpa using q1
            clear q q1
            go_wp2
            go_quiet (fail)
            go_wp2
            go_ret
            exact ⟨E.out, HF.out.drewN _⟩
      · have E := Lib.hid (ret_bool (decide_eq_true (list_eq hlen (fun j hj => HEQ.out j (by omega)))).symm)
        go_wp2
        go_ret
        exact ⟨E.out, HF.out⟩
  · have hbl : ((A.length : Int) != (B.length : Int)) = true := by simp; omega
    have E := Lib.hid (ret_bool (decide_eq_false (show ¬ A = B from fun h => hlen (by rw [h]))).symm)
    clear hlen
    go_enter Tryz.func14, Tryz.ntmps14
    go_wp2
    go_ret
    exact ⟨E.out, Fr.refl _ _⟩
end Go.Proofs.YteedndapbfihaaaGreat
/- Walks: All, AllOf. -/
namespace Go.Proofs.YteedndapbfihaaaGreat
open Go.RowKit Go.Deep

theorem mk256 (w : World) : (Instr.makeSlice 64 (.int .i64 256) (.int .i64 256)).run Tryz.prog w = .ok (.slice (some ⟨w.heap.size, 0, none⟩) 256 256) (w.alloc (.cells (Array.replicate 256 (.int .i64 0)) 3)) := by kernel_rfl
/-- All 256 answers. -/
def AllPost (f : Nat → Int) (w : World) (e : Ending) (w' : World) : Prop :=
  ∃ g, e = .returned (.slice (some ⟨g, 0, none⟩) 256 256) ∧ w.heap.size ≤ g ∧ w'.rowIs g 3 256 (I f) ∧ Fr NoB w w'
def AoRel (L : List Tb.Rt) (w : World) (g : Nat) (i : Value) (wr : World) : Prop :=
  ∃ k : Nat, (k : Int) ≤ 256 ∧ i = .int .i64 k ∧ wr.rowIs g 3 256 (I (fun n => if n < k then (Tb.lookR L n).1 else 0)) ∧ Fr NoB w wr
set_option maxRecDepth 100000 in
set_option maxHeartbeats 4000000 in
theorem AllOf_any (a : Option Addr) (c : Nat) (L : List Tb.Rt) (w : World) (hl : L.length ≤ 1000) (ha : Rs w a L) :
    Calls Tryz.prog 50 #[.slice a L.length c] w (AllPost (fun n => (Tb.lookR L n).1) w) := by
  have HA := Lib.hid ha; clear ha
  have hmk := mk256
  go_enter Tryz.func50, Tryz.ntmps50
  go_wp2
  go_loopw [4] (fun i wr => AoRel L w w.heap.size i wr) (fun i _ => 256 - (intOf i).toNat)
  case atStart => exact ⟨0, by omega, rfl, (rowIs_new w 256 (.int .i64 0) 3).congr (fun i _ => by simp [I]), (Fr.refl _ _).alloc _⟩
  case round =>
    obtain ⟨k, hk, rfl, hrow, hf⟩ := hrel
    have HF := Lib.hid hf; clear hf; have HRow := Lib.hid hrow; clear hrow
    by_cases hkk : (k : Int) < 256
    · go_wp2_with fail
      refine (RLook_any a c L k _ hl (HA.out.keep0 HF.out)).mono ?_
      rintro e w2 ⟨rfl, hf⟩
      have hrow := hf.row HRow.out (fun h => h)
      have HF2 := Lib.hid (HF.out.trans hf)
      have cz := rowI_cell hrow (i := k) (by omega)
      have fz := World.rowIs.frozen hrow k
      have HR2 := Lib.hid hrow; clear hrow
      clear hf
      go_wp2
      go_roundw
      case rel => exact ⟨k + 1, by omega, by go_num, rowI_set HR2.out k _ (fun j hj => by
        by_cases e : j = k
        · subst e; simp
        · have : j < k + 1 ↔ j < k := by omega
          simp [e, this]), HF2.out.setNew (Nat.le_refl _) _ _⟩
      case measure => simp [intOf]; omega
    · have hr : wr.rowIs w.heap.size 3 256 (I (fun n => (Tb.lookR L n).1)) := HRow.out.congr (fun i hi => by unfold I; dsimp only; rw [if_pos (by omega)])
      have HR := Lib.hid hr; clear hr
      go_wp2
      go_ret
      exact ⟨_, rfl, Nat.le_refl _, HR.out, HF.out⟩
theorem lookF_in {l b h T : Int} {n x : Nat} (hok : Tb.ok ⟨l, b⟩) (hx : (x : Int) = Tb.lst ⟨l, b⟩ + 1) : (if Tb.fst ⟨l, b⟩ ≤ (n : Int) ∧ n < x then h else T) = Tb.lookF n T ⟨⟨l, b⟩, h⟩ := by
  unfold Tb.lookF
  by_cases k : Tb.fst ⟨l, b⟩ ≤ (n : Int) ∧ n < x
  · rw [if_pos k, if_pos ⟨hok, k.1, by dsimp only; omega⟩]
  · rw [if_neg k, if_neg (fun h => k ⟨h.2.1, by have := h.2.2; dsimp only at this; omega⟩)]
theorem cell_set {w : World} {b o g i : Nat} {v u : Value} (h : w.cell? ⟨b, o, none⟩ = some v) (hne : b ≠ g) : (w.setCell ⟨g, i, none⟩ u).cell? ⟨b, o, none⟩ = some v := by
  rw [World.cell?_setCell_other _ _ _ _ (fun e => hne (by cases e; rfl))]
  exact h
def A1Rel (w : World) (g : Nat) (i : Value) (wr : World) : Prop :=
  ∃ k : Nat, (k : Int) ≤ 256 ∧ i = .int .i64 k ∧ wr.rowIs g 3 256 (I (fun n => if n < k then -1 else 0)) ∧ Fr NoB w wr
def A2Rel (L : List Tb.Rt) (w : World) (g : Nat) (i : Value) (wr : World) : Prop :=
  ∃ k : Nat, k ≤ L.length ∧ i = .int .i64 k ∧ wr.rowIs g 3 256 (I (fun n => Tb.look (L.take k) n)) ∧ Fr NoB w wr
def A3Rel (T : List Tb.Rt) (r : Tb.Rt) (q : Nat) (w : World) (g : Nat) (i : Value) (wr : World) : Prop :=
  ∃ x : Nat, Tb.fst r.p ≤ (x : Int) ∧ (x : Int) ≤ Tb.lst r.p + 1 ∧ i = .int .i64 x ∧ wr.rowIs g 3 256 (I (fun n => if Tb.fst r.p ≤ (n : Int) ∧ n < x then r.hop else Tb.look T n)) ∧
    wr.cell? ⟨q, 0, none⟩ = some (.int .i64 r.p.len) ∧ wr.cell? ⟨q, 1, none⟩ = some (.int .i64 r.p.bits) ∧ wr.cell? ⟨q, 2, none⟩ = some (.int .i64 r.hop) ∧ Fr NoB w wr
set_option maxRecDepth 100000 in
set_option maxHeartbeats 4000000 in
theorem All_any (t : Nat) (a : Option Addr) (c : Nat) (L : List Tb.Rt) (w : World) (hl : L.length ≤ 1000) (hw : Tb.Wf L) (ha : Rs w a L) (hc : w.cell? ⟨t, 0, none⟩ = some (.slice a L.length c)) :
    Calls Tryz.prog 58 #[.pointer (some ⟨t, 0, none⟩)] w (AllPost (fun n => Tb.look L n) w) := by
  have HA := Lib.hid ha; clear ha; have HW := Lib.hid hw; clear hw; have HC := Lib.hid hc; clear hc
  have hmk := mk256
  go_enter Tryz.func58, Tryz.ntmps58
  go_wp2
  go_loopw [11] (fun i wr => A1Rel w w.heap.size i wr) (fun i _ => 256 - (intOf i).toNat)
  case atStart => exact ⟨0, by omega, rfl, (rowIs_new w 256 (.int .i64 0) 3).congr (fun i _ => by simp [I]), (Fr.refl _ _).alloc _⟩
  case round =>
    obtain ⟨k, hk, rfl, hrow, hf⟩ := hrel
    by_cases hkk : (k : Int) < 256
    · have cz := rowI_cell hrow (i := k) (by omega)
      have fz := World.rowIs.frozen hrow k
      have HF := Lib.hid hf; clear hf; have HRow := Lib.hid hrow; clear hrow
      go_wp2
      go_roundw
      case rel => exact ⟨k + 1, by omega, by go_num, rowI_set HRow.out k _ (fun j hj => by
        by_cases e : j = k
        · subst e; simp
        · have : j < k + 1 ↔ j < k := by omega
          simp [e, this]), HF.out.setNew (Nat.le_refl _) _ _⟩
      case measure => simp [intOf]; omega
    · have hr : wr.rowIs w.heap.size 3 256 (I (fun n => Tb.look (L.take 0) n)) := hrow.congr (fun i hi => by unfold I; dsimp only; rw [if_pos (by omega)]; rfl)
      have hc := cell_fr' hf HC.out (fun h => h)
      have HF := Lib.hid hf; clear hf; have HR := Lib.hid hr; clear hr
      clear hrow
      go_wp2
      go_loopw [23] (fun i wr => A2Rel L w w.heap.size i wr) (fun i _ => L.length - (intOf i).toNat)
      case atStart => exact ⟨0, by omega, rfl, HR.out, HF.out⟩
      case round =>
        clear HR HF
        obtain ⟨k, hk, rfl, hrow, hf⟩ := hrel
        have HF := Lib.hid hf; clear hf; have HRow := Lib.hid hrow; clear hrow
        by_cases hkk : k < L.length
        · obtain ⟨b0, o0, rfl, c0, c1, c2⟩ := (HA.out.keep0 HF.out) k hkk
          have hok := HW.out.ok (Tb.nth_mem hkk)
          have hst : ∀ n : Nat, Tb.look (L.take (k + 1)) n = Tb.lookF n (Tb.look (L.take k) n) (Tb.nth L k) := fun n => by rw [Tb.take_succ hkk, Tb.look_app]
          generalize hr : Tb.nth L k = r at *
          obtain ⟨⟨l, b⟩, h⟩ := r
          dsimp only at c0 c1 c2 hok
          have HST := Lib.hid hst; clear hst; have HOK := Lib.hid hok; clear hok
          clear hr
          have hki : (k : Int) < (L.length : Int) := by omega
          go_upto_region 10 with fail
          refine wp_name fun w1 hw1 => ?_
          have d0 : w1.cell? ⟨wr.heap.size, 0, none⟩ = some (.int .i64 l) := by rw [hw1]; simp
          have d1 : w1.cell? ⟨wr.heap.size, 1, none⟩ = some (.int .i64 b) := by rw [hw1]; simp
          have d2 : w1.cell? ⟨wr.heap.size, 2, none⟩ = some (.int .i64 h) := by rw [hw1]; simp
          have hF : Fr NoB wr w1 := by rw [hw1]; (repeat (first | exact Fr.refl _ _ | refine Fr.alloc ?_ _ | refine Fr.setNew ?_ (by omega) _ _ | refine Fr.drewN ?_ _ | refine Fr.drew ?_))
          have hrow := hF.row HRow.out (fun h => h)
          clear hw1 c0 c1 c2
          have HF1 := Lib.hid (HF.out.trans hF)
          have HR1 := Lib.hid hrow
          have hqw := World.rowIs.lt HRow.out
          clear hF hrow HRow HF
          generalize wr.heap.size = q at *
          go_wp2_with fail
          refine (First_any _ _ _).mono ?_
          rintro e w2 ⟨rfl, hf⟩
          have d0 := cell_fr' hf d0 (fun h => h)
          have d1 := cell_fr' hf d1 (fun h => h)
          have d2 := cell_fr' hf d2 (fun h => h)
          have hrow := hf.row HR1.out (fun h => h)
          have HF2 := Lib.hid (HF1.out.trans hf)
          have HR2 := Lib.hid hrow
          clear hf hrow HR1 HF1
          go_wp2
          go_loopw [7] (fun i wr => A3Rel (L.take k) ⟨⟨l, b⟩, h⟩ q w w.heap.size i wr) (fun i _ => (Tb.lst ⟨l, b⟩ + 1 - intOf i).toNat)
          case atStart =>
            have h0 := Tb.fst_ge HOK.out
            have h1 := Tb.fst_le HOK.out
            refine ⟨(Tb.fst ⟨l, b⟩).toNat, by show Tb.fst ⟨l, b⟩ ≤ _; omega, by show _ ≤ Tb.lst ⟨l, b⟩ + 1; omega, by rw [Int.toNat_of_nonneg h0], HR2.out.congr (fun i hi => ?_), d0, d1, d2, HF2.out⟩
            unfold I
            dsimp only
            rw [if_neg (by omega)]
          case round =>
            clear d0 d1 d2 HR2 HF2
            obtain ⟨x, hx0, hx1, rfl, hrow, d0, d1, d2, hf⟩ := hrel
            dsimp only at hx0 hx1 d0 d1 d2
            have HF := Lib.hid hf; clear hf; have HRow := Lib.hid hrow; clear hrow
            go_wp2_with fail
            refine (Last_any _ _ _).mono ?_
            rintro e w3 ⟨rfl, hf⟩
            have d0 := cell_fr' hf d0 (fun h => h)
            have d1 := cell_fr' hf d1 (fun h => h)
            have d2 := cell_fr' hf d2 (fun h => h)
            have hrow := hf.row HRow.out (fun h => h)
            have HF2 := Lib.hid (HF.out.trans hf)
            clear hf HF HRow
            have hl8 := (Tb.fst_le HOK.out).2
            generalize hls : Tb.lst ⟨l, b⟩ = z at *
            by_cases hxz : (x : Int) ≤ z
            · have cz := rowI_cell hrow (i := x) (by omega)
              have fz := World.rowIs.frozen hrow x
              have hx256 : (x : Int) < 256 := by omega
              have HR2 := Lib.hid hrow; clear hrow
              go_wp2
              go_roundw
              case rel =>
                refine ⟨x + 1, by dsimp only; omega, by dsimp only; omega, by go_num, rowI_set HR2.out x h (fun j hj => ?_), cell_set d0 (by omega), cell_set d1 (by omega), cell_set d2 (by omega), HF2.out.setNew (Nat.le_refl _) _ _⟩
                dsimp only
                by_cases e : j = x
                · subst e; rw [if_pos ⟨hx0, by omega⟩, if_pos rfl]
                · rw [if_neg e]
                  have : (Tb.fst ⟨l, b⟩ ≤ (j : Int) ∧ j < x + 1) ↔ (Tb.fst ⟨l, b⟩ ≤ (j : Int) ∧ j < x) := by omega
                  simp only [this]
              case measure => simp [intOf]; omega
            · have hr : w3.rowIs w.heap.size 3 256 (I (fun n => Tb.look (L.take (k + 1)) n)) := hrow.congr (fun i hi => by
                unfold I
                dsimp only
                rw [HST.out, ← lookF_in (x := x) HOK.out (by rw [hls]; omega)])
              have HR2 := Lib.hid hr; clear hr hrow
              go_wp2
              go_roundw
              case rel => exact ⟨k + 1, by omega, by go_num, HR2.out, HF2.out⟩
              case measure => simp [intOf]; omega
        · have e : L.take k = L := List.take_of_length_le (by omega)
          have hr := HRow.out
          rw [e] at hr
          have HR := Lib.hid hr; clear hr
          clear e
          go_wp2
          go_ret
          exact ⟨_, rfl, Nat.le_refl _, HR.out, HF.out⟩
end Go.Proofs.YteedndapbfihaaaGreat
