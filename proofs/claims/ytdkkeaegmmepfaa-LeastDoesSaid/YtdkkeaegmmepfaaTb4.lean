/- Walks: table.Check. -/
import Derived.Test.YtdkkeaegmmepfaaTb3
namespace Go.Proofs.Ytdkkeaegmmepfaa
open Go.RowKit Go.Deep

/-- Routes from an address on. -/
def Rs (w : World) (a : Option Addr) (L : List Tb.Rt) : Prop := ∀ k, k < L.length → ∃ b off, a = some ⟨b, off, none⟩ ∧
  w.cell? ⟨b, off + k * 3, none⟩ = some (.int .i64 (Tb.nth L k).p.len) ∧ w.cell? ⟨b, off + k * 3 + 1, none⟩ = some (.int .i64 (Tb.nth L k).p.bits) ∧ w.cell? ⟨b, off + k * 3 + 2, none⟩ = some (.int .i64 (Tb.nth L k).hop)
theorem Rs.nil (w : World) (a : Option Addr) : Rs w a [] := fun k hk => absurd hk (by simp)
theorem Rs.keep {S : Nat → Prop} {w w' : World} {a : Option Addr} {L : List Tb.Rt} (h : Rs w a L) (hf : Fr S w w') (hS : ∀ p, a = some p → ¬ S p.block) : Rs w' a L := by
  intro k hk
  obtain ⟨b, off, h1, h2, h3, h4⟩ := h k hk
  exact ⟨b, off, h1, cell_fr' hf h2 (hS _ h1), cell_fr' hf h3 (hS _ h1), cell_fr' hf h4 (hS _ h1)⟩
theorem Rs.keep0 {w w' : World} {a : Option Addr} {L : List Tb.Rt} (h : Rs w a L) (hf : Fr NoB w w') : Rs w' a L := h.keep hf (fun _ _ h => h)

def CkRel (L : List Tb.Rt) (w : World) (i : Value) (wr : World) : Prop := ∃ k : Nat, k ≤ L.length ∧ i = .int .i64 k ∧ (∀ j, j < k → Tb.faultAt L j = 0) ∧ Fr NoB w wr
theorem chk_at {L : List Tb.Rt} {k : Nat} (h40 : ¬ 40 < L.length) (hk : k < L.length) (hz : ∀ j, j < k → Tb.faultAt L j = 0) {c : Int} (h : Tb.faultAt L k = c) (hc : c ≠ 0) : Tb.chk L = c := by
  unfold Tb.chk
  rw [if_neg h40, Tb.fF_hit L.length 0 k (Nat.zero_le _) (by omega) (fun j _ h2 => hz j h2) (by rw [h]; exact hc), h]
theorem chk_end {L : List Tb.Rt} {k : Nat} (h40 : ¬ 40 < L.length) (hk : ¬ k < L.length) (hz : ∀ j, j < k → Tb.faultAt L j = 0) : Tb.chk L = 0 := by
  unfold Tb.chk
  rw [if_neg h40, Tb.fF_zero L.length 0 (fun j _ h2 => hz j (by omega))]
set_option maxRecDepth 100000 in
set_option maxHeartbeats 4000000 in
theorem Check_all (a : Option Addr) (c : Nat) (L : List Tb.Rt) (w : World) (ha : Rs w a L) :
    Calls Try.prog 35 #[.slice a L.length c] w (IntFr (Tb.chk L) w) := by
  by_cases h40 : 40 < L.length
  · have E := Lib.hid (ret_int (k := .i64) (show (3 : Int) = Tb.chk L by unfold Tb.chk; rw [if_pos h40]))
    have hb : (40 : Int) < (L.length : Int) := by omega
    clear h40
    go_enter Try.func35, Try.ntmps35
    go_wp2
    go_ret
    exact ⟨E.out, Fr.refl _ _⟩
  · have hb : (L.length : Int) ≤ 40 := by omega
    have HA := Lib.hid ha; clear ha; have H40 := Lib.hid h40; clear h40
    go_enter Try.func35, Try.ntmps35
    go_wp2
    go_loopw [10] (fun i wr => CkRel L w i wr) (fun i _ => L.length - (intOf i).toNat)
    case atStart => exact ⟨0, by omega, rfl, fun j hj => by omega, Fr.refl _ _⟩
    case round =>
      obtain ⟨k, hk, rfl, hz, hf⟩ := hrel
      have HZ := Lib.hid hz; clear hz; have HF := Lib.hid hf; clear hf
      by_cases hkk : k < L.length
      · obtain ⟨b0, o0, rfl, c0, c1, c2⟩ := (HA.out.keep0 HF.out) k hkk
        generalize hr : Tb.nth L k = r at *
        obtain ⟨⟨l, b⟩, hop⟩ := r
        dsimp only at c0 c1 c2
        have HR := Lib.hid hr; clear hr
        go_upto_region 6 with fail
        refine wp_name fun w1 hw1 => ?_
        have d0 : w1.cell? ⟨wr.heap.size, 0, none⟩ = some (.int .i64 l) := by rw [hw1]; simp
        have d1 : w1.cell? ⟨wr.heap.size, 1, none⟩ = some (.int .i64 b) := by rw [hw1]; simp
        have d2 : w1.cell? ⟨wr.heap.size, 2, none⟩ = some (.int .i64 hop) := by rw [hw1]; simp
        have hF : Fr NoB wr w1 := by rw [hw1]; (repeat (first | exact Fr.refl _ _ | refine Fr.alloc ?_ _ | refine Fr.setNew ?_ (by omega) _ _ | refine Fr.drewN ?_ _ | refine Fr.drew ?_))
        clear hw1
        have HF1 := Lib.hid (HF.out.trans hF)
        clear c0 c1 c2 hF
        by_cases hok : Tb.ok ⟨l, b⟩
        · have hd := decide_eq_true hok
          have HD := Lib.hid hd; clear hd; have HOK := Lib.hid hok; clear hok
          go_wp2_with fail
          refine (Check_any l b _).mono ?_
          rw [HD.out]
          rintro e w2 ⟨rfl, hf⟩
          have d0 := cell_fr' hf d0 (fun h => h)
          have d1 := cell_fr' hf d1 (fun h => h)
          have d2 := cell_fr' hf d2 (fun h => h)
          have HF2 := Lib.hid (HF1.out.trans hf)
          clear hf HF1
          by_cases hho : Tb.hopOK hop
          · have hd2 := decide_eq_true hho
            have HD2 := Lib.hid hd2; clear hd2; have HHO := Lib.hid hho; clear hho
            go_wp2_with fail
            refine (Hop_any hop _).mono ?_
            rw [HD2.out]
            rintro e w3 ⟨rfl, rfl⟩
            cases k with
            | zero =>
              have hz0 : Tb.faultAt L 0 = 0 := by
                unfold Tb.faultAt
                rw [HR.out, if_neg (by simp [HOK.out, HHO.out]), if_neg (by simp), if_neg (by simp)]
              have HZ0 := Lib.hid hz0; clear hz0
              go_wp2
              go_quiet (fail)
              go_wp2
              go_quiet (fail)
              go_wp2
              go_roundw
              case rel => exact ⟨1, by omega, by go_num, fun j hj => by rw [show j = 0 from by omega]; exact HZ0.out, HF2.out.drewN _⟩
              case measure => simp [intOf]; omega
            | succ j =>
              obtain ⟨b1, o1, e', e0, e1, _⟩ := (HA.out.keep0 HF2.out) j (by omega)
              cases e'
              generalize hq : Tb.nth L j = q at *
              obtain ⟨⟨ql, qb⟩, qh⟩ := q
              dsimp only at e0 e1
              have HQ := Lib.hid hq; clear hq
              have hji : (j : Int) < (L.length : Int) := by omega
              have hj0 : (0 : Int) ≤ (j : Int) := by omega
              have hjw := IntWalk.i64_in (j : Int) (by omega)
              have hjw2 : IntKind.i64.wrap ((j : Int) + 1 - 1) = (j : Int) := by rw [IntWalk.i64_in _ (by omega)]; omega
              by_cases q1 : ql = l
              · by_cases q2 : qb = b
                · subst q1; subst q2
                  have hz : Tb.faultAt L (j + 1) = 5 := by
                    unfold Tb.faultAt
                    rw [HR.out, Nat.add_sub_cancel, HQ.out, if_neg (by simp [HOK.out, HHO.out]), if_pos ⟨by omega, rfl⟩]
                  have E := Lib.hid (ret_int (k := .i64) (chk_at H40.out hkk HZ.out hz (by omega)).symm)
                  clear hz
                  go_wp2
                  go_quiet (fail)
                  go_wp2
                  go_ret
                  exact ⟨E.out, HF2.out.drewN _⟩
                · have hq2 : (qb == b) = false := by simpa using q2
                  clear q1
                  have hj : Tb.faultAt L (j + 1) = if ¬ Tb.less ⟨ql, qb⟩ ⟨l, b⟩ then 4 else 0 := by
                    unfold Tb.faultAt
                    rw [HR.out, Nat.add_sub_cancel, HQ.out, if_neg (by simp [HOK.out, HHO.out]), if_neg (by intro h; have h := h.2; simp only [Tb.Pf.mk.injEq] at h; omega)]
                    simp
                  by_cases hls : Tb.less ⟨ql, qb⟩ ⟨l, b⟩
                  · have hls' := decide_eq_true hls
                    have HZ0 := Lib.hid (hj.trans (if_neg (fun h => h hls)))
                    clear hj
                    have HLS := Lib.hid hls'; clear hls'; have HL0 := Lib.hid hls; clear hls
                    go_wp2
                    go_quiet (fail)
                    go_wp2
                    go_region_held3 (fun W => W.cell? ⟨b0, o0 + j * 3, none⟩ = some (.int .i64 ql) ∧ W.cell? ⟨b0, o0 + j * 3 + 1, none⟩ = some (.int .i64 qb) ∧ W.cell? ⟨wr.heap.size, 0, none⟩ = some (.int .i64 l) ∧ W.cell? ⟨wr.heap.size, 1, none⟩ = some (.int .i64 b))
                      (first | exact ⟨t0, t1, t2, t3⟩ | exact ⟨e0, e1, d0, d1⟩)
                      (first | (go_at_call 58; have hh := HF2.out; clear hh; go_must (refine (Less_any _ _ _ _ _).mono ?_); go_must (rw [HLS.out]); go_must (rintro e w3 ⟨rfl, hf⟩); go_must (have t0 := cell_fr' hf e0 (fun h => h)); go_must (have t1 := cell_fr' hf e1 (fun h => h)); go_must (have t2 := cell_fr' hf d0 (fun h => h)); go_must (have t3 := cell_fr' hf d1 (fun h => h)); go_must (have HF3 := Lib.hid ((HF2.out.drewN _).drew.trans hf)); go_must (clear hf)))
                    all_goals (
                      go_wp2
                      go_roundw
                      case rel => exact ⟨j + 2, by omega, by go_num, fun i hi => by
                        by_cases e : i = j + 1
                        · rw [e]; exact HZ0.out
                        · exact HZ.out i (by omega), HF3.out⟩
                      case measure => simp [intOf]; omega)
                  · have hls' := decide_eq_false hls
                    have E := Lib.hid (ret_int (k := .i64) (chk_at H40.out hkk HZ.out (hj.trans (if_pos hls)) (by omega)).symm)
                    clear hj
                    have HLS := Lib.hid hls'; clear hls'; have HL0 := Lib.hid hls; clear hls
                    go_wp2
                    go_quiet (fail)
                    go_wp2
                    go_region_held3 (fun W => W.cell? ⟨b0, o0 + j * 3, none⟩ = some (.int .i64 ql) ∧ W.cell? ⟨b0, o0 + j * 3 + 1, none⟩ = some (.int .i64 qb) ∧ W.cell? ⟨wr.heap.size, 0, none⟩ = some (.int .i64 l) ∧ W.cell? ⟨wr.heap.size, 1, none⟩ = some (.int .i64 b))
                      (first | exact ⟨t0, t1, t2, t3⟩ | exact ⟨e0, e1, d0, d1⟩)
                      (first | (go_at_call 58; have hh := HF2.out; clear hh; go_must (refine (Less_any _ _ _ _ _).mono ?_); go_must (rw [HLS.out]); go_must (rintro e w3 ⟨rfl, hf⟩); go_must (have t0 := cell_fr' hf e0 (fun h => h)); go_must (have t1 := cell_fr' hf e1 (fun h => h)); go_must (have t2 := cell_fr' hf d0 (fun h => h)); go_must (have t3 := cell_fr' hf d1 (fun h => h)); go_must (have HF3 := Lib.hid ((HF2.out.drewN _).drew.trans hf)); go_must (clear hf)))
                    all_goals (
                      go_wp2
                      go_ret
                      exact ⟨E.out, HF3.out⟩)
              · have hq1 : (ql == l) = false := by simpa using q1
                have hj : Tb.faultAt L (j + 1) = if ¬ Tb.less ⟨ql, qb⟩ ⟨l, b⟩ then 4 else 0 := by
                  unfold Tb.faultAt
                  rw [HR.out, Nat.add_sub_cancel, HQ.out, if_neg (by simp [HOK.out, HHO.out]), if_neg (by intro h; have h := h.2; simp only [Tb.Pf.mk.injEq] at h; omega)]
                  simp
                by_cases hls : Tb.less ⟨ql, qb⟩ ⟨l, b⟩
                · have hls' := decide_eq_true hls
                  have HZ0 := Lib.hid (hj.trans (if_neg (fun h => h hls)))
                  clear hj
                  have HLS := Lib.hid hls'; clear hls'; have HL0 := Lib.hid hls; clear hls
                  go_wp2
                  go_quiet (fail)
                  go_wp2
                  go_region_held3 (fun W => W.cell? ⟨b0, o0 + j * 3, none⟩ = some (.int .i64 ql) ∧ W.cell? ⟨b0, o0 + j * 3 + 1, none⟩ = some (.int .i64 qb) ∧ W.cell? ⟨wr.heap.size, 0, none⟩ = some (.int .i64 l) ∧ W.cell? ⟨wr.heap.size, 1, none⟩ = some (.int .i64 b))
                    (first | exact ⟨t0, t1, t2, t3⟩ | exact ⟨e0, e1, d0, d1⟩)
                    (first | (go_at_call 58; have hh := HF2.out; clear hh; go_must (refine (Less_any _ _ _ _ _).mono ?_); go_must (rw [HLS.out]); go_must (rintro e w3 ⟨rfl, hf⟩); go_must (have t0 := cell_fr' hf e0 (fun h => h)); go_must (have t1 := cell_fr' hf e1 (fun h => h)); go_must (have t2 := cell_fr' hf d0 (fun h => h)); go_must (have t3 := cell_fr' hf d1 (fun h => h)); go_must (have HF3 := Lib.hid ((HF2.out.drewN _).drew.trans hf)); go_must (clear hf)))
                  all_goals (
                    go_wp2
                    go_roundw
                    case rel => exact ⟨j + 2, by omega, by go_num, fun i hi => by
                      by_cases e : i = j + 1
                      · rw [e]; exact HZ0.out
                      · exact HZ.out i (by omega), HF3.out⟩
                    case measure => simp [intOf]; omega)
                · have hls' := decide_eq_false hls
                  have E := Lib.hid (ret_int (k := .i64) (chk_at H40.out hkk HZ.out (hj.trans (if_pos hls)) (by omega)).symm)
                  clear hj
                  have HLS := Lib.hid hls'; clear hls'; have HL0 := Lib.hid hls; clear hls
                  go_wp2
                  go_quiet (fail)
                  go_wp2
                  go_region_held3 (fun W => W.cell? ⟨b0, o0 + j * 3, none⟩ = some (.int .i64 ql) ∧ W.cell? ⟨b0, o0 + j * 3 + 1, none⟩ = some (.int .i64 qb) ∧ W.cell? ⟨wr.heap.size, 0, none⟩ = some (.int .i64 l) ∧ W.cell? ⟨wr.heap.size, 1, none⟩ = some (.int .i64 b))
                    (first | exact ⟨t0, t1, t2, t3⟩ | exact ⟨e0, e1, d0, d1⟩)
                    (first | (go_at_call 58; have hh := HF2.out; clear hh; go_must (refine (Less_any _ _ _ _ _).mono ?_); go_must (rw [HLS.out]); go_must (rintro e w3 ⟨rfl, hf⟩); go_must (have t0 := cell_fr' hf e0 (fun h => h)); go_must (have t1 := cell_fr' hf e1 (fun h => h)); go_must (have t2 := cell_fr' hf d0 (fun h => h)); go_must (have t3 := cell_fr' hf d1 (fun h => h)); go_must (have HF3 := Lib.hid ((HF2.out.drewN _).drew.trans hf)); go_must (clear hf)))
                  all_goals (
                    go_wp2
                    go_ret
                    exact ⟨E.out, HF3.out⟩)
          · have hd2 := decide_eq_false hho
            have hz : Tb.faultAt L k = 1 := by
              unfold Tb.faultAt
              rw [HR.out, if_pos (.inr hho)]
            have E := Lib.hid (ret_int (k := .i64) (chk_at H40.out hkk HZ.out hz (by omega)).symm)
            clear hz
            have HD2 := Lib.hid hd2; clear hd2; have HHO := Lib.hid hho; clear hho
            go_wp2_with fail
            refine (Hop_any hop _).mono ?_
            rw [HD2.out]
            rintro e w3 ⟨rfl, rfl⟩
            go_wp2
            go_ret
            exact ⟨E.out, HF2.out⟩
        · have hd := decide_eq_false hok
          have hz : Tb.faultAt L k = 1 := by
            unfold Tb.faultAt
            rw [HR.out, if_pos (.inl hok)]
          have E := Lib.hid (ret_int (k := .i64) (chk_at H40.out hkk HZ.out hz (by omega)).symm)
          clear hz
          have HD := Lib.hid hd; clear hd; have HOK := Lib.hid hok; clear hok
          go_wp2_with fail
          refine (Check_any l b _).mono ?_
          rw [HD.out]
          rintro e w2 ⟨rfl, hf⟩
          have HF2 := Lib.hid (HF1.out.trans hf)
          clear hf
          go_wp2
          go_ret
          exact ⟨E.out, HF2.out⟩
      · have E := Lib.hid (ret_int (k := .i64) (chk_end H40.out hkk HZ.out).symm)
        go_wp2
        go_ret
        exact ⟨E.out, HF.out⟩
end Go.Proofs.Ytdkkeaegmmepfaa
