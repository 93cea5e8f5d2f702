/- Walks: handpostlaw.linksBegun; (*Links).Far for whatever source; handpostlaw.far. -/
import Derived.Test.YtdpgbgapelgomaaLk7
namespace Go.Proofs.Ytdpgbgapelgomaa
open Go.RowKit Go.Deep

theorem Far_any (b : Nat) (s : Int) (C : Nat → Nat → Int) (w : World) (hC : CAt w b 103 C) (hc : Lk.CostOK C) :
    Calls Try.prog 21 #[.pointer (some ⟨b, 0, none⟩), .int .i64 s] w (FarPost (Lk.far C s) w) := by
  by_cases h : 0 ≤ s ∧ s < 6
  · obtain ⟨n, rfl⟩ := Int.eq_ofNat_of_zero_le h.1
    exact Far_node b n C w hC hc (by omega)
  · exact Far_none b s C w hc h

def CB : Nat → Nat → Int := setC (setC (setC (fun _ _ => 0) 0 1 5) 1 2 5) 0 2 11
theorem CB_ok : Lk.CostOK CB := CostOK.set (CostOK.set (CostOK.set CostOK.zero (by omega) (by omega) (by omega)) (by omega) (by omega) (by omega)) (by omega) (by omega) (by omega)
def dB : Nat → Int := fun n => if n = 0 then 0 else if n = 1 then 5 else if n = 2 then 10 else 200
theorem dB_sol : Lk.Sol CB 0 dB where
  lo := by decide
  hi := by decide
  src v hv h := by
    have : v = 0 := by omega
    subst this; rfl
  step := by
    have h : ∀ a, a < 6 → ∀ b, b < 6 → 0 < CB a b → dB b ≤ dB a + CB a b := by decide
    exact fun a b ha hb => h a ha b hb
  pred := by
    have h : ∀ v, v < 6 → dB v < 200 → v = 0 ∨ ∃ a, a < 6 ∧ 0 < CB a v ∧ dB v = dB a + CB a v := by decide
    intro v hv h2
    rcases h v hv h2 with h0 | h0
    · exact .inl (by omega)
    · exact .inr h0

def TrueFr (w : World) (e : Ending) (w' : World) : Prop := e = .returned (.bool true) ∧ Fr NoB w w'

set_option maxHeartbeats 2000000 in
theorem linksBegun_true (w : World) : Calls Try.prog 16 #[] w (TrueFr w) := by
  go_enter Try.func16, Try.ntmps16
  go_wp2_with fail
  refine (NewL _).mono ?_
  rintro e w1 ⟨rfl, hL, hF⟩
  have HF := Lib.hid hF; clear hF
  have HL := Lib.hid hL; clear hL
  go_wp2_with fail
  refine (Set_ok w.heap.size 0 1 5 _ _ (by omega) (by omega) (by omega) (by omega) (by omega) HL.out).mono ?_
  rintro e w2 ⟨rfl, hL, hF⟩
  have HF := Lib.hid (HF.out.trans' hF (fun i hi h => absurd h (Nat.ne_of_lt hi))); clear hF
  have HL := Lib.hid hL; clear hL
  go_wp2_with fail
  refine (Set_ok w.heap.size 1 2 5 _ _ (by omega) (by omega) (by omega) (by omega) (by omega) HL.out).mono ?_
  rintro e w3 ⟨rfl, hL, hF⟩
  have HF := Lib.hid (HF.out.trans' hF (fun i hi h => absurd h (Nat.ne_of_lt hi))); clear hF
  have HL := Lib.hid hL; clear hL
  go_wp2_with fail
  refine (Set_ok w.heap.size 0 2 11 _ _ (by omega) (by omega) (by omega) (by omega) (by omega) HL.out).mono ?_
  rintro e w4 ⟨rfl, hL, hF⟩
  have HF := Lib.hid (HF.out.trans' hF (fun i hi h => absurd h (Nat.ne_of_lt hi))); clear hF
  have hL : CAt w4 w.heap.size 103 CB := hL
  have HL := Lib.hid hL; clear hL
  go_wp2_with fail
  refine (Far_any w.heap.size 0 CB _ HL.out CB_ok).mono ?_
  rintro e w5 ⟨g, rfl, hg, hrow, hF⟩
  have hL := hF.row HL.out (fun h => h)
  have HL := Lib.hid hL; clear hL
  have c2 := rowI_cell hrow (i := 2) (by omega)
  have c3 := rowI_cell hrow (i := 3) (by omega)
  rw [Lk.far_eq dB_sol CB_ok.lo 2 (by omega)] at c2
  rw [Lk.far_eq dB_sol CB_ok.lo 3 (by omega)] at c3
  have c2 : w5.cell? ⟨g, 2, none⟩ = some (.int .i64 10) := c2
  have c3 : w5.cell? ⟨g, 3, none⟩ = some (.int .i64 200) := c3
  have HF := Lib.hid (HF.out.trans hF); clear hF hrow hg
  go_wp2_with fail
  refine (Set_no w.heap.size 1 1 1 _ (by omega)).mono ?_
  rintro e w6 ⟨rfl, rfl⟩
  clear c2 c3
  go_wp2_with fail
  refine (List_any w.heap.size CB _ HL.out).mono ?_
  rintro e w7 ⟨a, rfl, _, _, hF⟩
  have hL := hF.row HL.out (fun h => h)
  have HL := Lib.hid hL; clear hL
  have HF := Lib.hid (HF.out.trans hF); clear hF
  have e3 : (allP CB 6).length = 3 := by decide
  rw [e3]
  clear e3
  go_wp2_with fail
  refine (Of_yes w.heap.size 1 CB _ (by omega) HL.out).mono ?_
  rintro e w8 ⟨v, rfl, hv, hF⟩
  have HF := Lib.hid (HF.out.trans hF); clear hF
  obtain ⟨a', cap, rfl, _, _⟩ := hv.rd
  have e2 : (ints (ofL CB 1 6)).length = 2 := by decide
  rw [e2]
  clear e2 hv
  go_wp2_with fail
  refine (Node_yes 5 _ (by omega) (by omega)).mono ?_
  rintro e w9 ⟨rfl, rfl⟩
  go_wp2
  go_ret
  exact ⟨rfl, HF.out⟩

/-- Six integers as a value. -/
def agg6 (f : Nat → Int) : Value := .agg #[.int .i64 (f 0), .int .i64 (f 1), .int .i64 (f 2), .int .i64 (f 3), .int .i64 (f 4), .int .i64 (f 5)]
def LfarPost (f : Nat → Int) (w : World) (e : Ending) (w' : World) : Prop := e = .returned (agg6 f) ∧ Fr NoB w w'
def LfarRel (f : Nat → Int) (w : World) (o g : Nat) (i : Value) (wr : World) : Prop :=
  ∃ k : Nat, k ≤ 6 ∧ i = .int .i64 k ∧ wr.rowIs o 32 6 (I (fun n => if n < k then f n else 0)) ∧ wr.rowIs g 3 6 (I f) ∧ wr.rowIs w.heap.size 32 6 (I (fun _ => 0)) ∧ Fr NoB w wr

set_option maxHeartbeats 2000000 in
theorem Lfar (b : Nat) (s : Int) (C : Nat → Nat → Int) (w : World) (hC : CAt w b 103 C) (hc : Lk.CostOK C) :
    Calls Try.prog 26 #[.pointer (some ⟨b, 0, none⟩), .int .i64 s] w (LfarPost (Lk.far C s) w) := by
  have hlt := World.rowIs.lt hC
  have hCa := World.rowIs.alloc hC (.cells (Array.replicate 6 (.int .i64 0)) 32)
  have HC := Lib.hid hCa; clear hC hCa
  have HH := Lib.hid hc; clear hc
  have HLt := Lib.hid hlt; clear hlt
  go_enter Try.func26, Try.ntmps26
  go_wp2_with fail
  refine (Far_any b s C _ HC.out HH.out).mono ?_
  rintro e w1 ⟨g, rfl, hg, hrow, hF⟩
  have hr := hF.row (rowIs_new w 6 (.int .i64 0) 32) (fun h => h)
  have hF := ((Fr.refl NoB w).alloc (.cells (Array.replicate 6 (.int .i64 0)) 32)).trans hF
  have HR := Lib.hid hr; clear hr
  have HG := Lib.hid hrow; clear hrow
  have HF := Lib.hid hF; clear hF
  have hg : w.heap.size < g := by simp at hg; omega
  have KG := Lib.hid hg; clear hg
  go_wp2
  go_loopw [7] (fun i wr => LfarRel (Lk.far C s) w w1.heap.size g i wr) (fun i _ => 6 - (intOf i).toNat)
  case atStart => exact ⟨0, by omega, rfl, (rowIs_new w1 6 (.int .i64 0) 32).congr (fun i _ => by simp [I]), HG.out.alloc _, HR.out.alloc _, HF.out.alloc _⟩
  case round =>
    have hgl := HG.out.lt
    have hrl := HR.out.lt
    have n1 : w1.heap.size ≠ g := by omega
    have n2 : w1.heap.size ≠ w.heap.size := by omega
    have kw : w.heap.size ≤ w1.heap.size := by omega
    have KW := Lib.hid kw; clear kw
    have N1 := Lib.hid n1; clear n1
    have N2 := Lib.hid n2; clear n2 hgl hrl HG HR HF
    obtain ⟨k, hk, rfl, h1, h2, h3, h4⟩ := hrel
    have H1 := Lib.hid h1; have H2 := Lib.hid h2; have H3 := Lib.hid h3; have H4 := Lib.hid h4
    clear h1 h2 h3 h4
    by_cases hk6 : k < 6
    · have c1 := rowI_cell H1.out hk6
      have c2 := rowI_cell H2.out hk6
      have f1 := H1.out.frozen k
      have c3 := rowI_cell (H2.out.setOther (a := ⟨w1.heap.size, k, none⟩) (fun h => N1.out h.symm) (.int .i64 (-1))) hk6
      go_wp2
      go_roundw
      case rel => exact ⟨k + 1, by omega, by go_num, rowI_set (rowI_set H1.out k (-1) (fun _ _ => rfl)) k (Lk.far C s k) (by
          intro j hj
          by_cases e : j = k
          · subst e; simp
          · have : j < k + 1 ↔ j < k := by omega
            simp [e, this]), (H2.out.setOther (fun h => N1.out h.symm) _).setOther (fun h => N1.out h.symm) _, (H3.out.setOther (fun h => N2.out h.symm) _).setOther (fun h => N2.out h.symm) _, (H4.out.setNew KW.out _ _).setNew KW.out _ _⟩
      case measure => simp [intOf]; omega
    · have e6 : k = 6 := by omega
      have hr : wr.rowIs w1.heap.size 32 6 (I (Lk.far C s)) := H1.out.congr (fun i hi => by simp [I, e6, hi])
      clear e6
      have c0 := rowI_cell hr (i := 0) (by omega)
      have d0 := rowI_cell H3.out (i := 0) (by omega)
      have f0 := H3.out.frozen 0
      have c1 := rowI_cell hr (i := 1) (by omega)
      have d1 := rowI_cell H3.out (i := 1) (by omega)
      have f1 := H3.out.frozen 1
      have c2 := rowI_cell hr (i := 2) (by omega)
      have d2 := rowI_cell H3.out (i := 2) (by omega)
      have f2 := H3.out.frozen 2
      have c3 := rowI_cell hr (i := 3) (by omega)
      have d3 := rowI_cell H3.out (i := 3) (by omega)
      have f3 := H3.out.frozen 3
      have c4 := rowI_cell hr (i := 4) (by omega)
      have d4 := rowI_cell H3.out (i := 4) (by omega)
      have f4 := H3.out.frozen 4
      have c5 := rowI_cell hr (i := 5) (by omega)
      have d5 := rowI_cell H3.out (i := 5) (by omega)
      have f5 := H3.out.frozen 5
      clear hr
      go_wp2
      refine bodyPost_ret (v := agg6 (Lk.far C s)) ?_ rfl ⟨rfl, ((((((H4.out.setNew (Nat.le_refl _) _ _).setNew (Nat.le_refl _) _ _).setNew (Nat.le_refl _) _ _).setNew (Nat.le_refl _) _ _).setNew (Nat.le_refl _) _ _).setNew (Nat.le_refl _) _ _)⟩
      simp [results, Try.results26, go_sem, agg6, d0, d1, d2, d3, d4, d5]
theorem index6_0 (f : Nat → Int) (w : World) : (Instr.index 32 (agg6 f) (.int .i64 0)).run Try.prog w = .ok (.int .i64 (f 0)) w := by kernel_rfl
theorem index6_1 (f : Nat → Int) (w : World) : (Instr.index 32 (agg6 f) (.int .i64 1)).run Try.prog w = .ok (.int .i64 (f 1)) w := by kernel_rfl
theorem index6_2 (f : Nat → Int) (w : World) : (Instr.index 32 (agg6 f) (.int .i64 2)).run Try.prog w = .ok (.int .i64 (f 2)) w := by kernel_rfl
theorem index6_3 (f : Nat → Int) (w : World) : (Instr.index 32 (agg6 f) (.int .i64 3)).run Try.prog w = .ok (.int .i64 (f 3)) w := by kernel_rfl
theorem index6_4 (f : Nat → Int) (w : World) : (Instr.index 32 (agg6 f) (.int .i64 4)).run Try.prog w = .ok (.int .i64 (f 4)) w := by kernel_rfl
theorem index6_5 (f : Nat → Int) (w : World) : (Instr.index 32 (agg6 f) (.int .i64 5)).run Try.prog w = .ok (.int .i64 (f 5)) w := by kernel_rfl
theorem index6 (n : Nat) (hn : n < 6) (f : Nat → Int) (w : World) : (Instr.index 32 (agg6 f) (.int .i64 n)).run Try.prog w = .ok (.int .i64 (f n)) w := by
  match n, hn with
  | 0, _ => exact index6_0 f w
  | 1, _ => exact index6_1 f w
  | 2, _ => exact index6_2 f w
  | 3, _ => exact index6_3 f w
  | 4, _ => exact index6_4 f w
  | 5, _ => exact index6_5 f w

end Go.Proofs.Ytdpgbgapelgomaa
