/- TableApart: the walk. -/
import Derived.Test.YtglngngcohcmfaaTb23
namespace Go.Proofs.Ytglngngcohcmfaa.lawTableApart
open Go.RowKit Go.Deep Go.Proofs.Ytglngngcohcmfaa

def Lg (L : List Tb.Rt) (x pl : Int) (q : Nat) (s : Bool) : Prop := s = true ↔ ∃ j, j < q ∧ Tb.has (Tb.nth L j).p x ∧ pl < (Tb.nth L j).p.len
def RelA (L : List Tb.Rt) (x pl : Int) (w0 : World) (lg i : Value) (wr : World) : Prop :=
  ∃ (q : Nat) (s : Bool), q ≤ L.length ∧ i = .int .i64 q ∧ lg = .bool s ∧ Lg L x pl q s ∧ Fr NoB w0 wr
theorem step_no {L : List Tb.Rt} {x pl : Int} {q : Nat} (h : ¬ ∃ j, j < q ∧ Tb.has (Tb.nth L j).p x ∧ pl < (Tb.nth L j).p.len) (hq : ¬ (Tb.has (Tb.nth L q).p x ∧ pl < (Tb.nth L q).p.len)) :
    Lg L x pl (q + 1) false :=
  ⟨fun h => (by cases h), fun ⟨j, hj, h1⟩ => by
    by_cases e : j = q
    · subst e; exact absurd h1 hq
    · exact absurd ⟨j, by omega, h1⟩ h⟩
set_option maxRecDepth 100000 in
set_option maxHeartbeats 16000000 in
theorem walk_any (la : Option Addr) (lc : Nat) (S : List Tb.Rt) (pl pb hop x : Int) (w : World) (hS : Rs w la S) :
    Calls Try.prog 6 #[.slice la S.length lc, .agg #[.int .i64 pl, .int .i64 pb], .int .i64 hop, .int .i64 x] w (TrueFr w) := by
  by_cases h1 : 120 < S.length
  · have hb1 : (120 : Int) < (S.length : Int) := by omega
    clear h1
    go_enter Try.func6, Try.ntmps6
    go_wp2_with fail
    refine (tableBegun_true _).mono ?_
    rintro e w1 ⟨rfl, hf⟩
    have HF := Lib.hid (((Fr.refl NoB w).alloc _).trans hf)
    clear hf
    go_wp2
    go_ret
    exact ⟨rfl, HF.out⟩
  · have hb1 : ¬ (120 : Int) < (S.length : Int) := by omega
    have HLS : Hid (S.length ≤ 1000) := by show S.length ≤ 1000; omega
    have HS := Lib.hid hS; clear hS
    clear h1
    go_enter Try.func6, Try.ntmps6
    go_wp2_with fail
    refine (tableBegun_true _).mono ?_
    rintro e w1 ⟨rfl, hf⟩
    have c0 := cell_fr' hf (box0 w (.int .i64 pl) (.int .i64 pb) 24) (fun h => h)
    have c1 := cell_fr' hf (box1 w (.int .i64 pl) (.int .i64 pb) 24) (fun h => h)
    have HF := Lib.hid (((Fr.refl NoB w).alloc _).trans hf)
    have hbx : w.heap.size < w1.heap.size := World.block_lt_of_cell? w1 _ c0
    have HBX := Lib.hid hbx
    clear hf hbx
    go_wp2_with fail
    refine (tables_any la lc S _ HLS.out (HS.out.keep0 HF.out)).mono ?_
    rintro e w2 ⟨t, v, ra, rc, rfl, h2⟩
    obtain ⟨hwf, h40⟩ := Tb.play_ok S
    generalize Tb.play S = L at *
    have c0 := cell_fr' h2.f c0 (fun h => h)
    have c1 := cell_fr' h2.f c1 (fun h => h)
    have HO := Lib.hid h2.ow
    have HWF := Lib.hid hwf
    have H40 := Lib.hid h40
    have HL : Hid (L.length ≤ 1000) := by show L.length ≤ 1000; omega
    clear h2 hwf h40
    obtain ⟨ta, tc, rfl, htr, _, htc⟩ := HO.out.at_.shape
    have HTR := Lib.hid htr
    have HTC := Lib.hid htc
    clear htr htc
    generalize hwas : Tb.look L x = was
    have HWAS := Lib.hid hwas; clear hwas
    go_wp2_with fail
    refine (Look_any t ta tc L x _ HL.out HTR.out HTC.out).mono ?_
    rw [HWAS.out]
    rintro e w3 ⟨rfl, hf⟩
    have c0 := cell_fr' hf c0 (fun h => h)
    have c1 := cell_fr' hf c1 (fun h => h)
    have HO3 := Lib.hid (HO.out.keep0 hf)
    clear hf HO HTR HTC
    go_wp2_with fail
    refine (List_any t (.slice ta L.length tc) L _ HL.out HO3.out.at_).mono ?_
    rintro e w4 ⟨v4, rfl, hv, hf⟩
    obtain ⟨a4, c4, rfl, hr4, _⟩ := hv.shape
    have HS4 := Lib.hid (clone_sep HO3.out.at_ hv)
    have HR4 := Lib.hid hr4
    have c0 := cell_fr' hf c0 (fun h => h)
    have c1 := cell_fr' hf c1 (fun h => h)
    have HO4 := Lib.hid (HO3.out.keep0 hf)
    clear hr4 hv hf HO3
    go_wp2_with fail
    refine (Set_any t (.slice ta L.length tc) L pl pb hop _ H40.out HWF.out HO4.out.at_).mono ?_
    unfold SetPost
    by_cases hc : Tb.setC L ⟨pl, pb⟩ hop = 0
    · obtain ⟨hok, h2, _, _⟩ := Tb.setC_0 hc
      have hL1 := Tb.setL_ok HWF.out H40.out ⟨pl, pb⟩ hop
      have e1 : Tb.setL L ⟨pl, pb⟩ hop = Tb.setOk L ⟨pl, pb⟩ hop := by unfold Tb.setL; rw [if_pos hc]
      have hkey1 : (¬ Tb.has ⟨pl, pb⟩ x ∨ Tb.longer L ⟨pl, pb⟩ x) → Tb.look (Tb.setL L ⟨pl, pb⟩ hop) x = was := fun h => by rw [e1, ← HWAS.out]; exact Tb.set_apart HWF.out hok hop h
      have hkey2 : hop ≠ -2 → Tb.has ⟨pl, pb⟩ x → ¬ Tb.longer L ⟨pl, pb⟩ x → Tb.look (Tb.setL L ⟨pl, pb⟩ hop) x = hop := fun h h3 h4 => by rw [e1]; exact Tb.set_says h h3 h4
      rw [hc]
      generalize Tb.setL L ⟨pl, pb⟩ hop = L1 at *
      rintro e w5 ⟨rfl, v1, hT, hf, ho⟩
      have c0 := cell_fr' hf c0 (HO4.out.nb HBX.out)
      have c1 := cell_fr' hf c1 (HO4.out.nb HBX.out)
      have HO5 := Lib.hid (HO4.out.set hT hf ho)
      have HR5 := Lib.hid (HR4.out.sep HS4.out hf)
      have HK1 := Lib.hid hkey1
      have HK2 := Lib.hid hkey2
      have HW1 := Lib.hid hL1
      clear hT hf ho hc hkey1 hkey2 hL1 e1 hok h2 HO4 HR4 HS4
      obtain ⟨t1, d1, rfl, htr, _, htc⟩ := HO5.out.at_.shape
      have HTR := Lib.hid htr
      have HTC := Lib.hid htc
      have HL1 : Hid (L1.length ≤ 1000) := by have := HW1.out.2; show L1.length ≤ 1000; omega
      clear htr htc
      go_wp2
      go_loopw [14, 15] (fun lg i wr => RelA L x pl w5 lg i wr) (fun _ i _ => L.length - (intOf i).toNat)
      case atStart => exact ⟨0, false, by omega, rfl, rfl, ⟨fun h => (by cases h), fun ⟨j, hj, _⟩ => by omega⟩, Fr.refl _ _⟩
      case round =>
        obtain ⟨q, s, hq, rfl, rfl, hs, hf⟩ := hrel
        have p0 := cell_fr' hf c0 (fun h => h)
        have p1 := cell_fr' hf c1 (fun h => h)
        have hlb := HL.out
        have HF8 := Lib.hid hf; clear hf; have HSS := Lib.hid hs; clear hs
        by_cases hqq : q < L.length
        · obtain ⟨b0, o0, rfl, e0, e1, _⟩ := (HR5.out.keep0 HF8.out) q hqq
          generalize hr : Tb.nth L q = r at *
          obtain ⟨⟨m, c⟩, g'⟩ := r
          dsimp only at e0 e1
          have HRQ := Lib.hid hr; clear hr
          have hqi : (q : Int) < (L.length : Int) := by omega
          cases s with
          | true =>
            go_wp2
            go_quiet (fail)
            go_wp2
            go_roundw
            case rel => exact ⟨q + 1, true, by omega, by go_num, rfl, ⟨fun _ => by obtain ⟨j, hj, h⟩ := HSS.out.1 rfl; exact ⟨j, by omega, h⟩, fun _ => rfl⟩, HF8.out.drewN _⟩
            case measure => simp [intOf]; omega
          | false =>
            have hno : ¬ ∃ j, j < q ∧ Tb.has (Tb.nth L j).p x ∧ pl < (Tb.nth L j).p.len := fun h => absurd (HSS.out.2 h) (by simp)
            by_cases hp : Tb.has ⟨m, c⟩ x
            · have hd := decide_eq_true hp
              by_cases hgt : pl < m
              · have hgd := decide_eq_true hgt
                have hl2 : Lg L x pl (q + 1) true := ⟨fun _ => ⟨q, by omega, by rw [HRQ.out]; exact ⟨hp, hgt⟩⟩, fun _ => rfl⟩
                have HD := Lib.hid hd; clear hd; have HP := Lib.hid hp; clear hp; have HL2 := Lib.hid hl2; clear hl2
                clear hno
                go_wp2
                go_region_held3 (fun W => W.cell? ⟨b0, o0 + q * 3, none⟩ = some (.int .i64 m) ∧ W.cell? ⟨b0, o0 + q * 3 + 1, none⟩ = some (.int .i64 c) ∧ W.cell? ⟨w.heap.size, 0, none⟩ = some (.int .i64 pl))
                  (first | exact ⟨s0, s1, s2⟩ | exact ⟨e0, e1, p0⟩)
                  (first | (go_at_call 26; have hh := HF8.out; clear hh; go_must (refine (RHas_any _ _ _ _).mono ?_); go_must (rw [HD.out]); go_must (rintro e w9 ⟨rfl, hf⟩); go_must (have s0 := cell_fr' hf e0 (fun h => h)); go_must (have s1 := cell_fr' hf e1 (fun h => h)); go_must (have s2 := cell_fr' hf p0 (fun h => h)); go_must (have HF9 := Lib.hid (HF8.out.drew.trans hf)); go_must (clear hf)))
                all_goals (
                  go_wp2
                  go_roundw
                  case rel => exact ⟨q + 1, true, by omega, by go_num, rfl, HL2.out, HF9.out⟩
                  case measure => simp [intOf]; omega)
              · have hgd := decide_eq_false hgt
                have hl2 := step_no hno (by rw [HRQ.out]; exact fun h => hgt h.2)
                have HD := Lib.hid hd; clear hd; have HP := Lib.hid hp; clear hp; have HL2 := Lib.hid hl2; clear hl2
                clear hno
                go_wp2
                go_region_held3 (fun W => W.cell? ⟨b0, o0 + q * 3, none⟩ = some (.int .i64 m) ∧ W.cell? ⟨b0, o0 + q * 3 + 1, none⟩ = some (.int .i64 c) ∧ W.cell? ⟨w.heap.size, 0, none⟩ = some (.int .i64 pl))
                  (first | exact ⟨s0, s1, s2⟩ | exact ⟨e0, e1, p0⟩)
                  (first | (go_at_call 26; have hh := HF8.out; clear hh; go_must (refine (RHas_any _ _ _ _).mono ?_); go_must (rw [HD.out]); go_must (rintro e w9 ⟨rfl, hf⟩); go_must (have s0 := cell_fr' hf e0 (fun h => h)); go_must (have s1 := cell_fr' hf e1 (fun h => h)); go_must (have s2 := cell_fr' hf p0 (fun h => h)); go_must (have HF9 := Lib.hid (HF8.out.drew.trans hf)); go_must (clear hf)))
                all_goals (
                  go_wp2
                  go_roundw
                  case rel => exact ⟨q + 1, false, by omega, by go_num, rfl, HL2.out, HF9.out⟩
                  case measure => simp [intOf]; omega)
            · have hd := decide_eq_false hp
              have hl2 := step_no hno (by rw [HRQ.out]; exact fun h => hp h.1)
              have HD := Lib.hid hd; clear hd; have HP := Lib.hid hp; clear hp; have HL2 := Lib.hid hl2; clear hl2
              clear hno
              go_wp2
              (refine wp_region_held_drew (S := (fun W => W.cell? ⟨b0, o0 + q * 3, none⟩ = some (.int .i64 m) ∧ W.cell? ⟨b0, o0 + q * 3 + 1, none⟩ = some (.int .i64 c))) (by kernel_rfl) ⟨e0, e1⟩ (fun hHeld => ?_))
              (refine wpAnyH_take (i := 0) (v := ?_) (by simp only [List.getElem?_toArray, List.getElem?_cons_zero]; rfl) (by kernel_rfl) (by kernel_rfl) (by kernel_rfl) (by exact fun _ _ _ h => h) (Or.inl ⟨by rfl, ?_⟩) hHeld ?_; rotate_left; (focus (intro w hSw; (try dsimp only at hSw); go_simp; all_goals with_reducible rfl)); (try simp only [Act.put, List.setIfInBounds_toArray, List.set_cons_zero, List.set_cons_succ])); (refine wpAnyH_take (i := 1) (v := ?_) (by simp only [List.getElem?_toArray, List.getElem?_cons_succ, List.getElem?_cons_zero]; rfl) (by kernel_rfl) (by kernel_rfl) (by kernel_rfl) (by exact fun _ _ _ h => h) (Or.inl ⟨by rfl, ?_⟩) hHeld ?_; rotate_left; (focus (intro w hSw; (try dsimp only at hSw); go_simp; all_goals with_reducible rfl)); (try simp only [Act.put, List.setIfInBounds_toArray, List.set_cons_zero, List.set_cons_succ])); (refine wpAnyH_take (i := 2) (v := ?_) (by simp only [List.getElem?_toArray, List.getElem?_cons_succ, List.getElem?_cons_zero]; rfl) (by kernel_rfl) (by kernel_rfl) (by kernel_rfl) (by exact fun _ _ _ h => h) (Or.inl ⟨by rfl, ?_⟩) hHeld ?_; rotate_left; (focus (intro w hSw; (try dsimp only at hSw); go_simp; all_goals with_reducible rfl)); (try simp only [Act.put, List.setIfInBounds_toArray, List.set_cons_zero, List.set_cons_succ])); (refine wpAnyH_take (i := 3) (v := ?_) (by simp only [List.getElem?_toArray, List.getElem?_cons_succ, List.getElem?_cons_zero]; rfl) (by kernel_rfl) (by kernel_rfl) (by kernel_rfl) (by exact fun _ _ _ h => h) (Or.inl ⟨by rfl, ?_⟩) hHeld ?_; rotate_left; (focus (intro w hSw; (try dsimp only at hSw); go_simp; all_goals with_reducible rfl)); (try simp only [Act.put, List.setIfInBounds_toArray, List.set_cons_zero, List.set_cons_succ])); (refine wpAnyH_take (i := 4) (v := ?_) (by simp only [List.getElem?_toArray, List.getElem?_cons_succ, List.getElem?_cons_zero]; rfl) (by kernel_rfl) (by kernel_rfl) (by kernel_rfl) (by exact fun _ _ _ h => h) (Or.inl ⟨by rfl, ?_⟩) hHeld ?_; rotate_left; (focus (intro w hSw; (try dsimp only at hSw); go_simp; all_goals with_reducible rfl)); (try simp only [Act.put, List.setIfInBounds_toArray, List.set_cons_zero, List.set_cons_succ])); (refine wpAnyH_take (i := 5) (v := ?_) (by simp only [List.getElem?_toArray, List.getElem?_cons_succ, List.getElem?_cons_zero]; rfl) (by kernel_rfl) (by kernel_rfl) (by kernel_rfl) (by exact fun _ _ _ h => h) (Or.inl ⟨by rfl, ?_⟩) hHeld ?_; rotate_left; (focus (intro w hSw; (try dsimp only at hSw); go_simp; all_goals with_reducible rfl)); (try simp only [Act.put, List.setIfInBounds_toArray, List.set_cons_zero, List.set_cons_succ])); (refine wpAnyH_take (i := 6) (v := ?_) (by simp only [List.getElem?_toArray, List.getElem?_cons_succ, List.getElem?_cons_zero]; rfl) (by kernel_rfl) (by kernel_rfl) (by kernel_rfl) (by exact fun _ _ _ h => h) (Or.inl ⟨by rfl, ?_⟩) hHeld ?_; rotate_left; (focus (intro w hSw; (try dsimp only at hSw); go_simp; all_goals with_reducible rfl)); (try simp only [Act.put, List.setIfInBounds_toArray, List.set_cons_zero, List.set_cons_succ])); (refine wpAnyH_take (i := 7) (v := ?_) (by simp only [List.getElem?_toArray, List.getElem?_cons_succ, List.getElem?_cons_zero]; rfl) (by kernel_rfl) (by kernel_rfl) (by kernel_rfl) (by exact fun _ _ _ h => h) (Or.inl ⟨by rfl, ?_⟩) hHeld ?_; rotate_left; (focus (intro w hSw; (try dsimp only at hSw); go_simp; all_goals with_reducible rfl)); (try simp only [Act.put, List.setIfInBounds_toArray, List.set_cons_zero, List.set_cons_succ]))
              (refine wpAnyH_ready (rs := [8]) (by kernel_rfl) (by simp) ?_; refine AllReadyH.cons (by simp only [List.getElem?_toArray, List.getElem?_cons_succ, List.getElem?_cons_zero]; rfl) (fun K hK => ?_) AllReadyH.nil; go_simp); (refine (RHas_any _ _ _ _).mono ?_; rw [HD.out]; rintro e w9 ⟨rfl, hf⟩; have s0 := cell_fr' hf e0 (fun h => h); have s1 := cell_fr' hf e1 (fun h => h); have HF9 := Lib.hid (HF8.out.drew.trans hf); clear hf); (try go_wp2_with fail); (refine hK.out _ _ ⟨s0, s1⟩ (fun hHeld => ?_)); clear hK K; (try simp only [Act.put, List.setIfInBounds_toArray, List.set_cons_zero, List.set_cons_succ])
              (refine wpAnyH_take (i := 9) (v := ?_) (by simp only [List.getElem?_toArray, List.getElem?_cons_succ, List.getElem?_cons_zero]; rfl) (by kernel_rfl) (by kernel_rfl) (by kernel_rfl) (by exact fun _ _ _ h => h) (Or.inl ⟨by rfl, ?_⟩) hHeld ?_; rotate_left; (focus (intro w hSw; (try dsimp only at hSw); go_simp; all_goals with_reducible rfl)); (try simp only [Act.put, List.setIfInBounds_toArray, List.set_cons_zero, List.set_cons_succ])); (refine wpAnyH_take (i := 10) (v := undef) (by simp only [List.getElem?_toArray, List.getElem?_cons_succ, List.getElem?_cons_zero]; rfl) (by kernel_rfl) (by kernel_rfl) (by kernel_rfl) (by exact fun _ _ _ h => h) (Or.inr ⟨by rfl, rfl⟩) hHeld ?_; (try simp only [Act.put, List.setIfInBounds_toArray, List.set_cons_zero, List.set_cons_succ])); (refine wpAnyH_take (i := 11) (v := undef) (by simp only [List.getElem?_toArray, List.getElem?_cons_succ, List.getElem?_cons_zero]; rfl) (by kernel_rfl) (by kernel_rfl) (by kernel_rfl) (by exact fun _ _ _ h => h) (Or.inr ⟨by rfl, rfl⟩) hHeld ?_; (try simp only [Act.put, List.setIfInBounds_toArray, List.set_cons_zero, List.set_cons_succ])); (refine wpAnyH_take (i := 12) (v := undef) (by simp only [List.getElem?_toArray, List.getElem?_cons_succ, List.getElem?_cons_zero]; rfl) (by kernel_rfl) (by kernel_rfl) (by kernel_rfl) (by exact fun _ _ _ h => h) (Or.inr ⟨by rfl, rfl⟩) hHeld ?_; (try simp only [Act.put, List.setIfInBounds_toArray, List.set_cons_zero, List.set_cons_succ])); (refine wpAnyH_take (i := 13) (v := undef) (by simp only [List.getElem?_toArray, List.getElem?_cons_succ, List.getElem?_cons_zero]; rfl) (by kernel_rfl) (by kernel_rfl) (by kernel_rfl) (by exact fun _ _ _ h => h) (Or.inr ⟨by rfl, rfl⟩) hHeld ?_; (try simp only [Act.put, List.setIfInBounds_toArray, List.set_cons_zero, List.set_cons_succ])); (refine wpAnyH_take (i := 14) (v := undef) (by simp only [List.getElem?_toArray, List.getElem?_cons_succ, List.getElem?_cons_zero]; rfl) (by kernel_rfl) (by kernel_rfl) (by kernel_rfl) (by exact fun _ _ _ h => h) (Or.inr ⟨by rfl, rfl⟩) hHeld ?_; (try simp only [Act.put, List.setIfInBounds_toArray, List.set_cons_zero, List.set_cons_succ])); (refine wpAnyH_take (i := 15) (v := undef) (by simp only [List.getElem?_toArray, List.getElem?_cons_succ, List.getElem?_cons_zero]; rfl) (by kernel_rfl) (by kernel_rfl) (by kernel_rfl) (by exact fun _ _ _ h => h) (Or.inr ⟨by rfl, rfl⟩) hHeld ?_; (try simp only [Act.put, List.setIfInBounds_toArray, List.set_cons_zero, List.set_cons_succ])); (refine wpAnyH_take (i := 16) (v := undef) (by simp only [List.getElem?_toArray, List.getElem?_cons_succ, List.getElem?_cons_zero]; rfl) (by kernel_rfl) (by kernel_rfl) (by kernel_rfl) (by exact fun _ _ _ h => h) (Or.inr ⟨by rfl, rfl⟩) hHeld ?_; (try simp only [Act.put, List.setIfInBounds_toArray, List.set_cons_zero, List.set_cons_succ])); (refine wpAnyH_take (i := 17) (v := undef) (by simp only [List.getElem?_toArray, List.getElem?_cons_succ, List.getElem?_cons_zero]; rfl) (by kernel_rfl) (by kernel_rfl) (by kernel_rfl) (by exact fun _ _ _ h => h) (Or.inr ⟨by rfl, rfl⟩) hHeld ?_; (try simp only [Act.put, List.setIfInBounds_toArray, List.set_cons_zero, List.set_cons_succ])); (refine wpAnyH_take (i := 18) (v := undef) (by simp only [List.getElem?_toArray, List.getElem?_cons_succ, List.getElem?_cons_zero]; rfl) (by kernel_rfl) (by kernel_rfl) (by kernel_rfl) (by exact fun _ _ _ h => h) (Or.inr ⟨by rfl, rfl⟩) hHeld ?_; (try simp only [Act.put, List.setIfInBounds_toArray, List.set_cons_zero, List.set_cons_succ])); (refine wpAnyH_take (i := 19) (v := ?_) (by simp only [List.getElem?_toArray, List.getElem?_cons_succ, List.getElem?_cons_zero]; rfl) (by kernel_rfl) (by kernel_rfl) (by kernel_rfl) (by exact fun _ _ _ h => h) (Or.inl ⟨by rfl, ?_⟩) hHeld ?_; rotate_left; (focus (intro w hSw; (try dsimp only at hSw); go_simp; all_goals with_reducible rfl)); (try simp only [Act.put, List.setIfInBounds_toArray, List.set_cons_zero, List.set_cons_succ])); (refine wpAnyH_take (i := 20) (v := ?_) (by simp only [List.getElem?_toArray, List.getElem?_cons_succ, List.getElem?_cons_zero]; rfl) (by kernel_rfl) (by kernel_rfl) (by kernel_rfl) (by exact fun _ _ _ h => h) (Or.inl ⟨by rfl, ?_⟩) hHeld ?_; rotate_left; (focus (intro w hSw; (try dsimp only at hSw); go_simp; all_goals with_reducible rfl)); (try simp only [Act.put, List.setIfInBounds_toArray, List.set_cons_zero, List.set_cons_succ])); (refine wpAnyH_take (i := 21) (v := ?_) (by simp only [List.getElem?_toArray, List.getElem?_cons_succ, List.getElem?_cons_zero]; rfl) (by kernel_rfl) (by kernel_rfl) (by kernel_rfl) (by exact fun _ _ _ h => h) (Or.inl ⟨by rfl, ?_⟩) hHeld ?_; rotate_left; (focus (intro w hSw; (try dsimp only at hSw); go_simp; all_goals with_reducible rfl)); (try simp only [Act.put, List.setIfInBounds_toArray, List.set_cons_zero, List.set_cons_succ]))
              (refine wpAnyH_done (by kernel_rfl) ?_ _)
              all_goals (
                go_wp2
                go_roundw
                case rel => exact ⟨q + 1, false, by omega, by go_num, rfl, HL2.out, HF9.out⟩
                case measure => simp [intOf]; omega)
        · have hll : s = true ↔ Tb.longer L ⟨pl, pb⟩ x := HSS.out.trans ⟨fun ⟨j, hj, h⟩ => ⟨j, by omega, h⟩, fun ⟨j, hj, h⟩ => ⟨j, by omega, h⟩⟩
          by_cases hp : Tb.has ⟨pl, pb⟩ x
          · have hd := decide_eq_true hp
            cases s with
            | true =>
              have hlk := HK1.out (.inr (hll.1 rfl))
              have HD := Lib.hid hd; clear hd; have HP := Lib.hid hp; clear hp; have HLK := Lib.hid hlk; clear hlk
              clear hll
              go_wp2_with fail
              refine (RHas_any _ _ _ _).mono ?_
              rw [HD.out]
              rintro e w9 ⟨rfl, hf⟩
              have HF9 := Lib.hid (HF8.out.trans hf)
              clear hf
              go_wp2_with fail
              refine (Look_any t t1 d1 L1 x _ HL1.out (HTR.out.keep0 HF9.out) (cell_fr' HF9.out HTC.out (fun h => h))).mono ?_
              rw [HLK.out]
              rintro e w10 ⟨rfl, hf⟩
              have HFE := Lib.hid (HF.out.trans (HO5.out.f.trans (HF9.out.trans hf)))
              clear hf
              go_wp2
              go_ret
              exact ⟨rfl, HFE.out⟩
            | false =>
              have hnl : ¬ Tb.longer L ⟨pl, pb⟩ x := fun h => absurd (hll.2 h) (by simp)
              by_cases h2 : hop = -2
              · have hb2 : (hop == -2) = true := by simpa using h2
                have HD := Lib.hid hd; clear hd; have HP := Lib.hid hp; clear hp
                clear hll hnl h2
                go_wp2_with fail
                refine (RHas_any _ _ _ _).mono ?_
                rw [HD.out]
                rintro e w9 ⟨rfl, hf⟩
                have HFE := Lib.hid (HF.out.trans (HO5.out.f.trans (HF8.out.trans hf)))
                clear hf
                go_wp2
                go_ret
                exact ⟨rfl, HFE.out⟩
              · have hb2 : (hop == -2) = false := by simpa using h2
                have hlk := HK2.out h2 hp hnl
                have HD := Lib.hid hd; clear hd; have HP := Lib.hid hp; clear hp; have HLK := Lib.hid hlk; clear hlk
                clear hll hnl h2
                go_wp2_with fail
                refine (RHas_any _ _ _ _).mono ?_
                rw [HD.out]
                rintro e w9 ⟨rfl, hf⟩
                have HF9 := Lib.hid (HF8.out.trans hf)
                clear hf
                go_wp2_with fail
                refine (Look_any t t1 d1 L1 x _ HL1.out (HTR.out.keep0 HF9.out) (cell_fr' HF9.out HTC.out (fun h => h))).mono ?_
                rw [HLK.out]
                rintro e w10 ⟨rfl, hf⟩
                have HFE := Lib.hid (HF.out.trans (HO5.out.f.trans (HF9.out.trans hf)))
                clear hf
                go_wp2
                go_ret
                exact ⟨rfl, HFE.out⟩
          · have hd := decide_eq_false hp
            have hlk := HK1.out (.inl hp)
            have HD := Lib.hid hd; clear hd; have HP := Lib.hid hp; clear hp; have HLK := Lib.hid hlk; clear hlk
            clear hll
            go_wp2_with fail
            refine (RHas_any _ _ _ _).mono ?_
            rw [HD.out]
            rintro e w9 ⟨rfl, hf⟩
            have HF9 := Lib.hid (HF8.out.trans hf)
            clear hf
            go_wp2_with fail
            refine (Look_any t t1 d1 L1 x _ HL1.out (HTR.out.keep0 HF9.out) (cell_fr' HF9.out HTC.out (fun h => h))).mono ?_
            rw [HLK.out]
            rintro e w10 ⟨rfl, hf⟩
            have HFE := Lib.hid (HF.out.trans (HO5.out.f.trans (HF9.out.trans hf)))
            clear hf
            go_wp2
            go_ret
            exact ⟨rfl, HFE.out⟩
    · have hL : Tb.setL L ⟨pl, pb⟩ hop = L := by unfold Tb.setL; rw [if_neg hc]
      have hbz : (Tb.setC L ⟨pl, pb⟩ hop != 0) = true := by simpa using hc
      rw [hL]
      generalize Tb.setC L ⟨pl, pb⟩ hop = cd at *
      rintro e w5 ⟨rfl, v1, hT, hf, ho⟩
      have HO5 := Lib.hid (HO4.out.set hT hf ho)
      clear hT hf ho hc hL HO4 HR4 HS4
      obtain ⟨t1, d1, rfl, htr, _, htc⟩ := HO5.out.at_.shape
      have HTR := Lib.hid htr
      have HTC := Lib.hid htc
      clear htr htc
      go_wp2_with fail
      refine (Look_any t t1 d1 L x _ HL.out HTR.out HTC.out).mono ?_
      rw [HWAS.out]
      rintro e w10 ⟨rfl, hf⟩
      have HFE := Lib.hid (HF.out.trans (HO5.out.f.trans hf))
      clear hf
      go_wp2
      go_ret
      exact ⟨rfl, HFE.out⟩

theorem TableApart_all (a0 : Option Addr) (n0 c0 : Nat) (X0 : Nat → Int) (f1 : Nat → Int) (a2 a3 : Int) (w : World) (r0 : Rd w a0 (n0 * 3) X0) :
    Calls Try.prog 6 #[.slice a0 n0 c0, .agg #[.int .i64 (f1 0), .int .i64 (f1 1)], .int .i64 a2, .int .i64 a3] w (TrueFr w) := by
  obtain ⟨S, rfl, hS⟩ := rs_of_rd r0
  exact walk_any a0 c0 S (f1 0) (f1 1) a2 a3 w hS
end Go.Proofs.Ytglngngcohcmfaa.lawTableApart
