/- TableLongest: the walk. -/
import Derived.Test.YtglngngcohcmfaaTb22
import Derived.Test.YtglngngcohcmfaaTbMath4
namespace Go.Proofs.Ytglngngcohcmfaa.lawTableLongest
open Go.RowKit Go.Deep Go.Proofs.Ytglngngcohcmfaa

def Rel1 (L : List Tb.Rt) (x : Int) (w0 : World) (sm i : Value) (wr : World) : Prop :=
  ∃ (k : Nat) (s : Bool), k ≤ L.length ∧ i = .int .i64 k ∧ sm = .bool s ∧ (s = false → ∀ j, j < k → ¬ Tb.has (Tb.nth L j).p x) ∧ Fr NoB w0 wr
def Rel2 (L : List Tb.Rt) (x li : Int) (w0 : World) (lg i : Value) (wr : World) : Prop :=
  ∃ (q : Nat) (s : Bool), q ≤ L.length ∧ i = .int .i64 q ∧ lg = .bool s ∧ (s = false → ∀ j, j < q → Tb.has (Tb.nth L j).p x → (Tb.nth L j).p.len ≤ li) ∧ Fr NoB w0 wr
set_option maxRecDepth 100000 in
set_option maxHeartbeats 16000000 in
theorem walk_any (la : Option Addr) (lc : Nat) (S : List Tb.Rt) (x : Int) (w : World) (hS : Rs w la S) :
    Calls Try.prog 4 #[.slice la S.length lc, .int .i64 x] w (TrueFr w) := by
  by_cases h1 : 120 < S.length
  · have hb1 : (120 : Int) < (S.length : Int) := by omega
    clear h1
    go_enter Try.func4, Try.ntmps4
    go_wp2_with fail
    refine (tableBegun_true _).mono ?_
    rintro e w1 ⟨rfl, hf⟩
    have HF := Lib.hid hf
    clear hf
    go_wp2
    go_ret
    exact ⟨rfl, HF.out⟩
  · have hb1 : ¬ (120 : Int) < (S.length : Int) := by omega
    have HLS : Hid (S.length ≤ 1000) := by show S.length ≤ 1000; omega
    have HS := Lib.hid hS; clear hS
    clear h1
    go_enter Try.func4, Try.ntmps4
    go_wp2_with fail
    refine (tableBegun_true _).mono ?_
    rintro e w1 ⟨rfl, hf⟩
    have HF := Lib.hid hf
    clear hf
    go_wp2_with fail
    refine (tables_any la lc S _ HLS.out (HS.out.keep0 HF.out)).mono ?_
    rintro e w2 ⟨t, v, ra, rc, rfl, h2⟩
    obtain ⟨hwf, h40⟩ := Tb.play_ok S
    generalize Tb.play S = L at *
    have HF2 := Lib.hid (HF.out.trans h2.f)
    obtain ⟨ta, tc, rfl, htr, _, htc⟩ := h2.at_.shape
    have HT := Lib.hid h2.at_
    have HTR := Lib.hid htr
    have HTC := Lib.hid htc
    have HWF := Lib.hid hwf
    have HL : Hid (L.length ≤ 1000) := by show L.length ≤ 1000; omega
    clear h2 htr htc hwf
    go_wp2_with fail
    refine (List_any t (.slice ta L.length tc) L _ HL.out HT.out).mono ?_
    rintro e w3 ⟨v4, rfl, hv, hf⟩
    obtain ⟨a4, c4, rfl, hr4, _⟩ := hv.shape
    have HR4 := Lib.hid hr4
    have HF3 := Lib.hid hf
    clear hr4 hv hf
    go_wp2_with fail
    refine (Look_any t ta tc L x _ HL.out (HTR.out.keep0 HF3.out) (cell_fr' HF3.out HTC.out (fun h => h))).mono ?_
    generalize hv : Tb.look L x = hv
    have HV := Lib.hid hv; clear hv
    rintro e w4 ⟨rfl, hf⟩
    have HF4 := Lib.hid hf; clear hf
    go_wp2_with fail
    refine (All_any t ta tc L _ HL.out HWF.out (HTR.out.keep0 (HF3.out.trans HF4.out)) (cell_fr' (HF3.out.trans HF4.out) HTC.out (fun h => h))).mono ?_
    rintro e w5 ⟨g, rfl, _, hrow, hf⟩
    have HRow := Lib.hid hrow
    have HF5 := Lib.hid (HF2.out.trans (HF3.out.trans (HF4.out.trans hf)))
    have HR5 := Lib.hid (HR4.out.keep0 (HF4.out.trans hf))
    clear hrow hf
    go_upto_region 9 with fail
    go_cut [51] (fun s wx => s = .bool false ∧ wx = w5)
    case first =>
      by_cases h0 : 0 ≤ x
      · by_cases h6 : x < 256
        · obtain ⟨n, rfl⟩ := Int.eq_ofNat_of_zero_le h0
          have cn := rowI_cell HRow.out (i := n) (by omega)
          rw [HV.out] at cn
          go_wp2_with fail
          go_meet
          exact ⟨rfl, rfl⟩
        · go_wp2_with fail
          go_meet
          exact ⟨rfl, rfl⟩
      · go_wp2_with fail
        go_meet
        exact ⟨rfl, rfl⟩
    case rest =>
      obtain ⟨rfl, hwe⟩ := hcut
      obtain ⟨w6, rfl⟩ : ∃ w6 : World, w6 = wc := ⟨_, rfl⟩
      subst hwe
      clear HRow HR4 HTR HTC HT HF3 HF4 HF2 HF
      go_wp2
      go_loopw [11, 12] (fun sm i wr => Rel1 L x w6 sm i wr) (fun _ i _ => L.length - (intOf i).toNat)
      case atStart => exact ⟨0, false, by omega, rfl, rfl, fun _ j hj => by omega, Fr.refl _ _⟩
      case round =>
        obtain ⟨k, s, hk, rfl, rfl, hno, hf⟩ := hrel
        have HF := Lib.hid hf; clear hf; have HNO := Lib.hid hno; clear hno
        by_cases hkk : k < L.length
        · obtain ⟨b0, o0, rfl, c0, c1, c2⟩ := (HR5.out.keep0 HF.out) k hkk
          generalize hr : Tb.nth L k = r at *
          obtain ⟨⟨l, b⟩, h⟩ := r
          dsimp only at c0 c1 c2
          have HRK := Lib.hid hr; clear hr
          have hki : (k : Int) < (L.length : Int) := by omega
          by_cases hh : Tb.has ⟨l, b⟩ x
          · have hd := decide_eq_true hh
            have HD := Lib.hid hd; clear hd; have HH := Lib.hid hh; clear hh
            go_wp2_with fail
            refine (RHas_any _ _ _ _).mono ?_
            rw [HD.out]
            rintro e w7 ⟨rfl, hf⟩
            have c0 := cell_fr' hf c0 (fun h => h)
            have c1 := cell_fr' hf c1 (fun h => h)
            have c2 := cell_fr' hf c2 (fun h => h)
            have HF7 := Lib.hid (HF.out.trans hf)
            clear hf HF
            go_wp2
            go_loopw [13, 14] (fun lg i wr => Rel2 L x l w7 lg i wr) (fun _ i _ => L.length - (intOf i).toNat)
            case atStart => exact ⟨0, false, by omega, rfl, rfl, fun _ j hj => by omega, Fr.refl _ _⟩
            case round =>
              obtain ⟨q, z, hq, rfl, rfl, hlo, hf⟩ := hrel
              have HF8 := Lib.hid hf; clear hf; have HLO := Lib.hid hlo; clear hlo
              have d0 := cell_fr' HF8.out c0 (fun h => h)
              have d2 := cell_fr' HF8.out c2 (fun h => h)
              by_cases hqq : q < L.length
              · obtain ⟨b1, o1, e', e0, e1, _⟩ := (HR5.out.keep0 (HF7.out.trans HF8.out)) q hqq
                cases e'
                generalize hr : Tb.nth L q = r at *
                obtain ⟨⟨m, c⟩, g'⟩ := r
                dsimp only at e0 e1
                have HRQ := Lib.hid hr; clear hr
                have hqi : (q : Int) < (L.length : Int) := by omega
                cases z with
                | true =>
                  go_wp2
                  go_quiet (fail)
                  go_wp2
                  go_roundw
                  case rel => exact ⟨q + 1, true, by omega, by go_num, rfl, fun h => (by cases h), HF8.out.drewN _⟩
                  case measure => simp [intOf]; omega
                | false =>
                  by_cases hp : Tb.has ⟨m, c⟩ x
                  · have hd := decide_eq_true hp
                    by_cases hgt : l < m
                    · have hgd := decide_eq_true hgt
                      have HD := Lib.hid hd; clear hd; have HP := Lib.hid hp; clear hp
                      go_wp2
                      go_region_held3 (fun W => W.cell? ⟨b0, o0 + q * 3, none⟩ = some (.int .i64 m) ∧ W.cell? ⟨b0, o0 + q * 3 + 1, none⟩ = some (.int .i64 c) ∧ W.cell? ⟨b0, o0 + k * 3, none⟩ = some (.int .i64 l))
                        (first | exact ⟨s0, s1, s2⟩ | exact ⟨e0, e1, d0⟩)
                        (first | (go_at_call 26; have hh := HF8.out; clear hh; go_must (refine (RHas_any _ _ _ _).mono ?_); go_must (rw [HD.out]); go_must (rintro e w9 ⟨rfl, hf⟩); go_must (have s0 := cell_fr' hf e0 (fun h => h)); go_must (have s1 := cell_fr' hf e1 (fun h => h)); go_must (have s2 := cell_fr' hf d0 (fun h => h)); go_must (have HF9 := Lib.hid (HF8.out.drew.trans hf)); go_must (clear hf)))
                      all_goals (
                        go_wp2
                        go_roundw
                        case rel => exact ⟨q + 1, true, by omega, by go_num, rfl, fun h => (by cases h), HF9.out⟩
                        case measure => simp [intOf]; omega)
                    · have hgd := decide_eq_false hgt
                      have hl2 : ∀ j, j < q + 1 → Tb.has (Tb.nth L j).p x → (Tb.nth L j).p.len ≤ l := fun j hj hjh => by
                        by_cases e : j = q
                        · rw [e, HRQ.out]; show m ≤ l; omega
                        · exact HLO.out rfl j (by omega) hjh
                      have HD := Lib.hid hd; clear hd; have HP := Lib.hid hp; clear hp; have HL2 := Lib.hid hl2; clear hl2
                      go_wp2
                      go_region_held3 (fun W => W.cell? ⟨b0, o0 + q * 3, none⟩ = some (.int .i64 m) ∧ W.cell? ⟨b0, o0 + q * 3 + 1, none⟩ = some (.int .i64 c) ∧ W.cell? ⟨b0, o0 + k * 3, none⟩ = some (.int .i64 l))
                        (first | exact ⟨s0, s1, s2⟩ | exact ⟨e0, e1, d0⟩)
                        (first | (go_at_call 26; have hh := HF8.out; clear hh; go_must (refine (RHas_any _ _ _ _).mono ?_); go_must (rw [HD.out]); go_must (rintro e w9 ⟨rfl, hf⟩); go_must (have s0 := cell_fr' hf e0 (fun h => h)); go_must (have s1 := cell_fr' hf e1 (fun h => h)); go_must (have s2 := cell_fr' hf d0 (fun h => h)); go_must (have HF9 := Lib.hid (HF8.out.drew.trans hf)); go_must (clear hf)))
                      all_goals (
                        go_wp2
                        go_roundw
                        case rel => exact ⟨q + 1, false, by omega, by go_num, rfl, fun _ => HL2.out, HF9.out⟩
                        case measure => simp [intOf]; omega)
                  · have hd := decide_eq_false hp
                    have hl2 : ∀ j, j < q + 1 → Tb.has (Tb.nth L j).p x → (Tb.nth L j).p.len ≤ l := fun j hj hjh => by
                      by_cases e : j = q
                      · rw [e, HRQ.out] at hjh; exact absurd hjh hp
                      · exact HLO.out rfl j (by omega) hjh
                    have HD := Lib.hid hd; clear hd; have HP := Lib.hid hp; clear hp; have HL2 := Lib.hid hl2; clear hl2
                    go_wp2
                    (refine wp_region_held_drew (S := (fun W => W.cell? ⟨b0, o0 + q * 3, none⟩ = some (.int .i64 m) ∧ W.cell? ⟨b0, o0 + q * 3 + 1, none⟩ = some (.int .i64 c))) (by kernel_rfl) ⟨e0, e1⟩ (fun hHeld => ?_))
                    (refine wpAnyH_take (i := 0) (v := ?_) (by simp only [List.getElem?_toArray, List.getElem?_cons_zero]; rfl) (by kernel_rfl) (by kernel_rfl) (by kernel_rfl) (by exact fun _ _ _ h => h) (Or.inl ⟨by rfl, ?_⟩) hHeld ?_; rotate_left; (focus (intro w hSw; (try dsimp only at hSw); go_simp; all_goals with_reducible rfl)); (try simp only [Act.put, List.setIfInBounds_toArray, List.set_cons_zero, List.set_cons_succ])); (refine wpAnyH_take (i := 1) (v := ?_) (by simp only [List.getElem?_toArray, List.getElem?_cons_succ, List.getElem?_cons_zero]; rfl) (by kernel_rfl) (by kernel_rfl) (by kernel_rfl) (by exact fun _ _ _ h => h) (Or.inl ⟨by rfl, ?_⟩) hHeld ?_; rotate_left; (focus (intro w hSw; (try dsimp only at hSw); go_simp; all_goals with_reducible rfl)); (try simp only [Act.put, List.setIfInBounds_toArray, List.set_cons_zero, List.set_cons_succ])); (refine wpAnyH_take (i := 2) (v := ?_) (by simp only [List.getElem?_toArray, List.getElem?_cons_succ, List.getElem?_cons_zero]; rfl) (by kernel_rfl) (by kernel_rfl) (by kernel_rfl) (by exact fun _ _ _ h => h) (Or.inl ⟨by rfl, ?_⟩) hHeld ?_; rotate_left; (focus (intro w hSw; (try dsimp only at hSw); go_simp; all_goals with_reducible rfl)); (try simp only [Act.put, List.setIfInBounds_toArray, List.set_cons_zero, List.set_cons_succ])); (refine wpAnyH_take (i := 3) (v := ?_) (by simp only [List.getElem?_toArray, List.getElem?_cons_succ, List.getElem?_cons_zero]; rfl) (by kernel_rfl) (by kernel_rfl) (by kernel_rfl) (by exact fun _ _ _ h => h) (Or.inl ⟨by rfl, ?_⟩) hHeld ?_; rotate_left; (focus (intro w hSw; (try dsimp only at hSw); go_simp; all_goals with_reducible rfl)); (try simp only [Act.put, List.setIfInBounds_toArray, List.set_cons_zero, List.set_cons_succ])); (refine wpAnyH_take (i := 4) (v := ?_) (by simp only [List.getElem?_toArray, List.getElem?_cons_succ, List.getElem?_cons_zero]; rfl) (by kernel_rfl) (by kernel_rfl) (by kernel_rfl) (by exact fun _ _ _ h => h) (Or.inl ⟨by rfl, ?_⟩) hHeld ?_; rotate_left; (focus (intro w hSw; (try dsimp only at hSw); go_simp; all_goals with_reducible rfl)); (try simp only [Act.put, List.setIfInBounds_toArray, List.set_cons_zero, List.set_cons_succ])); (refine wpAnyH_take (i := 5) (v := ?_) (by simp only [List.getElem?_toArray, List.getElem?_cons_succ, List.getElem?_cons_zero]; rfl) (by kernel_rfl) (by kernel_rfl) (by kernel_rfl) (by exact fun _ _ _ h => h) (Or.inl ⟨by rfl, ?_⟩) hHeld ?_; rotate_left; (focus (intro w hSw; (try dsimp only at hSw); go_simp; all_goals with_reducible rfl)); (try simp only [Act.put, List.setIfInBounds_toArray, List.set_cons_zero, List.set_cons_succ])); (refine wpAnyH_take (i := 6) (v := ?_) (by simp only [List.getElem?_toArray, List.getElem?_cons_succ, List.getElem?_cons_zero]; rfl) (by kernel_rfl) (by kernel_rfl) (by kernel_rfl) (by exact fun _ _ _ h => h) (Or.inl ⟨by rfl, ?_⟩) hHeld ?_; rotate_left; (focus (intro w hSw; (try dsimp only at hSw); go_simp; all_goals with_reducible rfl)); (try simp only [Act.put, List.setIfInBounds_toArray, List.set_cons_zero, List.set_cons_succ])); (refine wpAnyH_take (i := 7) (v := ?_) (by simp only [List.getElem?_toArray, List.getElem?_cons_succ, List.getElem?_cons_zero]; rfl) (by kernel_rfl) (by kernel_rfl) (by kernel_rfl) (by exact fun _ _ _ h => h) (Or.inl ⟨by rfl, ?_⟩) hHeld ?_; rotate_left; (focus (intro w hSw; (try dsimp only at hSw); go_simp; all_goals with_reducible rfl)); (try simp only [Act.put, List.setIfInBounds_toArray, List.set_cons_zero, List.set_cons_succ]))
                    (refine wpAnyH_ready (rs := [8]) (by kernel_rfl) (by simp) ?_; refine AllReadyH.cons (by simp only [List.getElem?_toArray, List.getElem?_cons_succ, List.getElem?_cons_zero]; rfl) (fun K hK => ?_) AllReadyH.nil; go_simp); (refine (RHas_any _ _ _ _).mono ?_; rw [HD.out]; rintro e w9 ⟨rfl, hf⟩; have s0 := cell_fr' hf e0 (fun h => h); have s1 := cell_fr' hf e1 (fun h => h); have HF9 := Lib.hid (HF8.out.drew.trans hf); clear hf); (try go_wp2_with fail); (refine hK.out _ _ ⟨s0, s1⟩ (fun hHeld => ?_)); clear hK K; (try simp only [Act.put, List.setIfInBounds_toArray, List.set_cons_zero, List.set_cons_succ])
                    (refine wpAnyH_take (i := 9) (v := ?_) (by simp only [List.getElem?_toArray, List.getElem?_cons_succ, List.getElem?_cons_zero]; rfl) (by kernel_rfl) (by kernel_rfl) (by kernel_rfl) (by exact fun _ _ _ h => h) (Or.inl ⟨by rfl, ?_⟩) hHeld ?_; rotate_left; (focus (intro w hSw; (try dsimp only at hSw); go_simp; all_goals with_reducible rfl)); (try simp only [Act.put, List.setIfInBounds_toArray, List.set_cons_zero, List.set_cons_succ])); (refine wpAnyH_take (i := 10) (v := undef) (by simp only [List.getElem?_toArray, List.getElem?_cons_succ, List.getElem?_cons_zero]; rfl) (by kernel_rfl) (by kernel_rfl) (by kernel_rfl) (by exact fun _ _ _ h => h) (Or.inr ⟨by rfl, rfl⟩) hHeld ?_; (try simp only [Act.put, List.setIfInBounds_toArray, List.set_cons_zero, List.set_cons_succ])); (refine wpAnyH_take (i := 11) (v := undef) (by simp only [List.getElem?_toArray, List.getElem?_cons_succ, List.getElem?_cons_zero]; rfl) (by kernel_rfl) (by kernel_rfl) (by kernel_rfl) (by exact fun _ _ _ h => h) (Or.inr ⟨by rfl, rfl⟩) hHeld ?_; (try simp only [Act.put, List.setIfInBounds_toArray, List.set_cons_zero, List.set_cons_succ])); (refine wpAnyH_take (i := 12) (v := undef) (by simp only [List.getElem?_toArray, List.getElem?_cons_succ, List.getElem?_cons_zero]; rfl) (by kernel_rfl) (by kernel_rfl) (by kernel_rfl) (by exact fun _ _ _ h => h) (Or.inr ⟨by rfl, rfl⟩) hHeld ?_; (try simp only [Act.put, List.setIfInBounds_toArray, List.set_cons_zero, List.set_cons_succ])); (refine wpAnyH_take (i := 13) (v := undef) (by simp only [List.getElem?_toArray, List.getElem?_cons_succ, List.getElem?_cons_zero]; rfl) (by kernel_rfl) (by kernel_rfl) (by kernel_rfl) (by exact fun _ _ _ h => h) (Or.inr ⟨by rfl, rfl⟩) hHeld ?_; (try simp only [Act.put, List.setIfInBounds_toArray, List.set_cons_zero, List.set_cons_succ])); (refine wpAnyH_take (i := 14) (v := undef) (by simp only [List.getElem?_toArray, List.getElem?_cons_succ, List.getElem?_cons_zero]; rfl) (by kernel_rfl) (by kernel_rfl) (by kernel_rfl) (by exact fun _ _ _ h => h) (Or.inr ⟨by rfl, rfl⟩) hHeld ?_; (try simp only [Act.put, List.setIfInBounds_toArray, List.set_cons_zero, List.set_cons_succ])); (refine wpAnyH_take (i := 15) (v := undef) (by simp only [List.getElem?_toArray, List.getElem?_cons_succ, List.getElem?_cons_zero]; rfl) (by kernel_rfl) (by kernel_rfl) (by kernel_rfl) (by exact fun _ _ _ h => h) (Or.inr ⟨by rfl, rfl⟩) hHeld ?_; (try simp only [Act.put, List.setIfInBounds_toArray, List.set_cons_zero, List.set_cons_succ])); (refine wpAnyH_take (i := 16) (v := undef) (by simp only [List.getElem?_toArray, List.getElem?_cons_succ, List.getElem?_cons_zero]; rfl) (by kernel_rfl) (by kernel_rfl) (by kernel_rfl) (by exact fun _ _ _ h => h) (Or.inr ⟨by rfl, rfl⟩) hHeld ?_; (try simp only [Act.put, List.setIfInBounds_toArray, List.set_cons_zero, List.set_cons_succ])); (refine wpAnyH_take (i := 17) (v := undef) (by simp only [List.getElem?_toArray, List.getElem?_cons_succ, List.getElem?_cons_zero]; rfl) (by kernel_rfl) (by kernel_rfl) (by kernel_rfl) (by exact fun _ _ _ h => h) (Or.inr ⟨by rfl, rfl⟩) hHeld ?_; (try simp only [Act.put, List.setIfInBounds_toArray, List.set_cons_zero, List.set_cons_succ])); (refine wpAnyH_take (i := 18) (v := undef) (by simp only [List.getElem?_toArray, List.getElem?_cons_succ, List.getElem?_cons_zero]; rfl) (by kernel_rfl) (by kernel_rfl) (by kernel_rfl) (by exact fun _ _ _ h => h) (Or.inr ⟨by rfl, rfl⟩) hHeld ?_; (try simp only [Act.put, List.setIfInBounds_toArray, List.set_cons_zero, List.set_cons_succ])); (refine wpAnyH_take (i := 19) (v := undef) (by simp only [List.getElem?_toArray, List.getElem?_cons_succ, List.getElem?_cons_zero]; rfl) (by kernel_rfl) (by kernel_rfl) (by kernel_rfl) (by exact fun _ _ _ h => h) (Or.inr ⟨by rfl, rfl⟩) hHeld ?_; (try simp only [Act.put, List.setIfInBounds_toArray, List.set_cons_zero, List.set_cons_succ])); (refine wpAnyH_take (i := 20) (v := undef) (by simp only [List.getElem?_toArray, List.getElem?_cons_succ, List.getElem?_cons_zero]; rfl) (by kernel_rfl) (by kernel_rfl) (by kernel_rfl) (by exact fun _ _ _ h => h) (Or.inr ⟨by rfl, rfl⟩) hHeld ?_; (try simp only [Act.put, List.setIfInBounds_toArray, List.set_cons_zero, List.set_cons_succ])); (refine wpAnyH_take (i := 21) (v := undef) (by simp only [List.getElem?_toArray, List.getElem?_cons_succ, List.getElem?_cons_zero]; rfl) (by kernel_rfl) (by kernel_rfl) (by kernel_rfl) (by exact fun _ _ _ h => h) (Or.inr ⟨by rfl, rfl⟩) hHeld ?_; (try simp only [Act.put, List.setIfInBounds_toArray, List.set_cons_zero, List.set_cons_succ])); (refine wpAnyH_take (i := 22) (v := undef) (by simp only [List.getElem?_toArray, List.getElem?_cons_succ, List.getElem?_cons_zero]; rfl) (by kernel_rfl) (by kernel_rfl) (by kernel_rfl) (by exact fun _ _ _ h => h) (Or.inr ⟨by rfl, rfl⟩) hHeld ?_; (try simp only [Act.put, List.setIfInBounds_toArray, List.set_cons_zero, List.set_cons_succ])); (refine wpAnyH_take (i := 23) (v := ?_) (by simp only [List.getElem?_toArray, List.getElem?_cons_succ, List.getElem?_cons_zero]; rfl) (by kernel_rfl) (by kernel_rfl) (by kernel_rfl) (by exact fun _ _ _ h => h) (Or.inl ⟨by rfl, ?_⟩) hHeld ?_; rotate_left; (focus (intro w hSw; (try dsimp only at hSw); go_simp; all_goals with_reducible rfl)); (try simp only [Act.put, List.setIfInBounds_toArray, List.set_cons_zero, List.set_cons_succ])); (refine wpAnyH_take (i := 24) (v := ?_) (by simp only [List.getElem?_toArray, List.getElem?_cons_succ, List.getElem?_cons_zero]; rfl) (by kernel_rfl) (by kernel_rfl) (by kernel_rfl) (by exact fun _ _ _ h => h) (Or.inl ⟨by rfl, ?_⟩) hHeld ?_; rotate_left; (focus (intro w hSw; (try dsimp only at hSw); go_simp; all_goals with_reducible rfl)); (try simp only [Act.put, List.setIfInBounds_toArray, List.set_cons_zero, List.set_cons_succ])); (refine wpAnyH_take (i := 25) (v := ?_) (by simp only [List.getElem?_toArray, List.getElem?_cons_succ, List.getElem?_cons_zero]; rfl) (by kernel_rfl) (by kernel_rfl) (by kernel_rfl) (by exact fun _ _ _ h => h) (Or.inl ⟨by rfl, ?_⟩) hHeld ?_; rotate_left; (focus (intro w hSw; (try dsimp only at hSw); go_simp; all_goals with_reducible rfl)); (try simp only [Act.put, List.setIfInBounds_toArray, List.set_cons_zero, List.set_cons_succ]))
                    (refine wpAnyH_done (by kernel_rfl) ?_ _)
                    all_goals (
                      go_wp2
                      go_roundw
                      case rel => exact ⟨q + 1, false, by omega, by go_num, rfl, fun _ => HL2.out, HF9.out⟩
                      case measure => simp [intOf]; omega)
              · cases z with
                | true =>
                  go_wp2
                  go_roundw
                  case rel => exact ⟨k + 1, true, by omega, by go_num, rfl, fun h => (by cases h), HF7.out.trans HF8.out⟩
                  case measure => simp [intOf]; omega
                | false =>
                  have hlk := Tb.look_longest HWF.out hkk (by rw [HRK.out]; exact HH.out) (fun j hj hjh => by rw [HRK.out]; exact HLO.out rfl j (by omega) hjh)
                  rw [HRK.out, HV.out] at hlk
                  dsimp only at hlk
                  subst hlk
                  go_wp2
                  go_roundw
                  case rel => exact ⟨k + 1, true, by omega, by go_num, rfl, fun h => (by cases h), HF7.out.trans HF8.out⟩
                  case measure => simp [intOf]; omega
          · have hd := decide_eq_false hh
            have hn2 : s = false → ∀ j, j < k + 1 → ¬ Tb.has (Tb.nth L j).p x := fun e j hj => by
              by_cases e2 : j = k
              · rw [e2, HRK.out]; exact hh
              · exact HNO.out e j (by omega)
            have HD := Lib.hid hd; clear hd; have HH := Lib.hid hh; clear hh; have HN2 := Lib.hid hn2; clear hn2
            go_wp2_with fail
            refine (RHas_any _ _ _ _).mono ?_
            rw [HD.out]
            rintro e w7 ⟨rfl, hf⟩
            have HF7 := Lib.hid (HF.out.trans hf)
            clear hf
            go_wp2
            go_roundw
            case rel => exact ⟨k + 1, s, by omega, by go_num, rfl, HN2.out, HF7.out⟩
            case measure => simp [intOf]; omega
        · cases s with
          | true =>
            go_wp2
            go_ret
            exact ⟨rfl, HF5.out.trans HF.out⟩
          | false =>
            have hlk := Tb.none_of (L := L) (a := x) (fun j hj => HNO.out rfl j (by omega))
            rw [HV.out] at hlk
            subst hlk
            go_wp2
            go_ret
            exact ⟨rfl, HF5.out.trans HF.out⟩

theorem TableLongest_all (a0 : Option Addr) (n0 c0 : Nat) (X0 : Nat → Int) (a1 : Int) (w : World) (r0 : Rd w a0 (n0 * 3) X0) :
    Calls Try.prog 4 #[.slice a0 n0 c0, .int .i64 a1] w (TrueFr w) := by
  obtain ⟨S, rfl, hS⟩ := rs_of_rd r0
  exact walk_any a0 c0 S a1 w hS
end Go.Proofs.Ytglngngcohcmfaa.lawTableLongest
