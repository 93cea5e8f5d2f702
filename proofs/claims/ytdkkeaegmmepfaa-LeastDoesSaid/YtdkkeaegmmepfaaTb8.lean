/- Walks: All, AllOf. -/
import Derived.Test.YtdkkeaegmmepfaaTb7
namespace Go.Proofs.Ytdkkeaegmmepfaa
open Go.RowKit Go.Deep

theorem mk256 (w : World) : (Instr.makeSlice 43 (.int .i64 256) (.int .i64 256)).run Try.prog w = .ok (.slice (some ⟨w.heap.size, 0, none⟩) 256 256) (w.alloc (.cells (Array.replicate 256 (.int .i64 0)) 3)) := by kernel_rfl
/-- All 256 answers. -/
def AllPost (f : Nat → Int) (w : World) (e : Ending) (w' : World) : Prop :=
  ∃ g, e = .returned (.slice (some ⟨g, 0, none⟩) 256 256) ∧ w.heap.size ≤ g ∧ w'.rowIs g 3 256 (I f) ∧ Fr NoB w w'
def AoRel (L : List Tb.Rt) (w : World) (g : Nat) (i : Value) (wr : World) : Prop :=
  ∃ k : Nat, (k : Int) ≤ 256 ∧ i = .int .i64 k ∧ wr.rowIs g 3 256 (I (fun n => if n < k then (Tb.lookR L n).1 else 0)) ∧ Fr NoB w wr
set_option maxRecDepth 100000 in
set_option maxHeartbeats 4000000 in
theorem AllOf_any (a : Option Addr) (c : Nat) (L : List Tb.Rt) (w : World) (hl : L.length ≤ 1000) (ha : Rs w a L) :
    Calls Try.prog 18 #[.slice a L.length c] w (AllPost (fun n => (Tb.lookR L n).1) w) := by
  have HA := Lib.hid ha; clear ha
  have hmk := mk256
  go_enter Try.func18, Try.ntmps18
  go_wp2
  go_loopw [4] (fun i wr => AoRel L w w.heap.size i wr) (fun i _ => 256 - (intOf i).toNat)
  case atStart => exact ⟨0, by omega, rfl, (rowIs_new w 256 (.int .i64 0) 3).congr (fun i _ => by simp [I]), (Fr.refl _ _).alloc _⟩
  case round =>
    obtain ⟨k, hk, rfl, hrow, hf⟩ := hrel
    have HF := Lib.hid hf; clear hf; have HRow := Lib.hid hrow; clear hrow
    by_cases hkk : (k : Int) < 256
    · go_wp2_with fail
      refine (RLook_any a c L k _ hl (HA.out.keep0 HF.out)).mono ?_
      rintro e w2 ⟨rfl, hf⟩
      have hrow := hf.row HRow.out (fun h => h)
      have HF2 := Lib.hid (HF.out.trans hf)
      have cz := rowI_cell hrow (i := k) (by omega)
      have fz := World.rowIs.frozen hrow k
      have HR2 := Lib.hid hrow; clear hrow
      clear hf
      go_wp2
      go_roundw
      case rel => exact ⟨k + 1, by omega, by go_num, rowI_set HR2.out k _ (fun j hj => by
        by_cases e : j = k
        · subst e; simp
        · have : j < k + 1 ↔ j < k := by omega
          simp [e, this]), HF2.out.setNew (Nat.le_refl _) _ _⟩
      case measure => simp [intOf]; omega
    · have hr : wr.rowIs w.heap.size 3 256 (I (fun n => (Tb.lookR L n).1)) := HRow.out.congr (fun i hi => by unfold I; dsimp only; rw [if_pos (by omega)])
      have HR := Lib.hid hr; clear hr
      go_wp2
      go_ret
      exact ⟨_, rfl, Nat.le_refl _, HR.out, HF.out⟩
theorem lookF_in {l b h T : Int} {n x : Nat} (hok : Tb.ok ⟨l, b⟩) (hx : (x : Int) = Tb.lst ⟨l, b⟩ + 1) : (if Tb.fst ⟨l, b⟩ ≤ (n : Int) ∧ n < x then h else T) = Tb.lookF n T ⟨⟨l, b⟩, h⟩ := by
  unfold Tb.lookF
  by_cases k : Tb.fst ⟨l, b⟩ ≤ (n : Int) ∧ n < x
  · rw [if_pos k, if_pos ⟨hok, k.1, by dsimp only; omega⟩]
  · rw [if_neg k, if_neg (fun h => k ⟨h.2.1, by have := h.2.2; dsimp only at this; omega⟩)]
theorem cell_set {w : World} {b o g i : Nat} {v u : Value} (h : w.cell? ⟨b, o, none⟩ = some v) (hne : b ≠ g) : (w.setCell ⟨g, i, none⟩ u).cell? ⟨b, o, none⟩ = some v := by
  rw [World.cell?_setCell_other _ _ _ _ (fun e => hne (by cases e; rfl))]
  exact h
def A1Rel (w : World) (g : Nat) (i : Value) (wr : World) : Prop :=
  ∃ k : Nat, (k : Int) ≤ 256 ∧ i = .int .i64 k ∧ wr.rowIs g 3 256 (I (fun n => if n < k then -1 else 0)) ∧ Fr NoB w wr
def A2Rel (L : List Tb.Rt) (w : World) (g : Nat) (i : Value) (wr : World) : Prop :=
  ∃ k : Nat, k ≤ L.length ∧ i = .int .i64 k ∧ wr.rowIs g 3 256 (I (fun n => Tb.look (L.take k) n)) ∧ Fr NoB w wr
def A3Rel (T : List Tb.Rt) (r : Tb.Rt) (q : Nat) (w : World) (g : Nat) (i : Value) (wr : World) : Prop :=
  ∃ x : Nat, Tb.fst r.p ≤ (x : Int) ∧ (x : Int) ≤ Tb.lst r.p + 1 ∧ i = .int .i64 x ∧ wr.rowIs g 3 256 (I (fun n => if Tb.fst r.p ≤ (n : Int) ∧ n < x then r.hop else Tb.look T n)) ∧
    wr.cell? ⟨q, 0, none⟩ = some (.int .i64 r.p.len) ∧ wr.cell? ⟨q, 1, none⟩ = some (.int .i64 r.p.bits) ∧ wr.cell? ⟨q, 2, none⟩ = some (.int .i64 r.hop) ∧ Fr NoB w wr
set_option maxRecDepth 100000 in
set_option maxHeartbeats 4000000 in
theorem All_any (t : Nat) (a : Option Addr) (c : Nat) (L : List Tb.Rt) (w : World) (hl : L.length ≤ 1000) (hw : Tb.Wf L) (ha : Rs w a L) (hc : w.cell? ⟨t, 0, none⟩ = some (.slice a L.length c)) :
    Calls Try.prog 41 #[.pointer (some ⟨t, 0, none⟩)] w (AllPost (fun n => Tb.look L n) w) := by
  have HA := Lib.hid ha; clear ha; have HW := Lib.hid hw; clear hw; have HC := Lib.hid hc; clear hc
  have hmk := mk256
  go_enter Try.func41, Try.ntmps41
  go_wp2
  go_loopw [11] (fun i wr => A1Rel w w.heap.size i wr) (fun i _ => 256 - (intOf i).toNat)
  case atStart => exact ⟨0, by omega, rfl, (rowIs_new w 256 (.int .i64 0) 3).congr (fun i _ => by simp [I]), (Fr.refl _ _).alloc _⟩
  case round =>
    obtain ⟨k, hk, rfl, hrow, hf⟩ := hrel
    by_cases hkk : (k : Int) < 256
    · have cz := rowI_cell hrow (i := k) (by omega)
      have fz := World.rowIs.frozen hrow k
      have HF := Lib.hid hf; clear hf; have HRow := Lib.hid hrow; clear hrow
      go_wp2
      go_roundw
      case rel => exact ⟨k + 1, by omega, by go_num, rowI_set HRow.out k _ (fun j hj => by
        by_cases e : j = k
        · subst e; simp
        · have : j < k + 1 ↔ j < k := by omega
          simp [e, this]), HF.out.setNew (Nat.le_refl _) _ _⟩
      case measure => simp [intOf]; omega
    · have hr : wr.rowIs w.heap.size 3 256 (I (fun n => Tb.look (L.take 0) n)) := hrow.congr (fun i hi => by unfold I; dsimp only; rw [if_pos (by omega)]; rfl)
      have hc := cell_fr' hf HC.out (fun h => h)
      have HF := Lib.hid hf; clear hf; have HR := Lib.hid hr; clear hr
      clear hrow
      go_wp2
      go_loopw [23] (fun i wr => A2Rel L w w.heap.size i wr) (fun i _ => L.length - (intOf i).toNat)
      case atStart => exact ⟨0, by omega, rfl, HR.out, HF.out⟩
      case round =>
        clear HR HF
        obtain ⟨k, hk, rfl, hrow, hf⟩ := hrel
        have HF := Lib.hid hf; clear hf; have HRow := Lib.hid hrow; clear hrow
        by_cases hkk : k < L.length
        · obtain ⟨b0, o0, rfl, c0, c1, c2⟩ := (HA.out.keep0 HF.out) k hkk
          have hok := HW.out.ok (Tb.nth_mem hkk)
          have hst : ∀ n : Nat, Tb.look (L.take (k + 1)) n = Tb.lookF n (Tb.look (L.take k) n) (Tb.nth L k) := fun n => by rw [Tb.take_succ hkk, Tb.look_app]
          generalize hr : Tb.nth L k = r at *
          obtain ⟨⟨l, b⟩, h⟩ := r
          dsimp only at c0 c1 c2 hok
          have HST := Lib.hid hst; clear hst; have HOK := Lib.hid hok; clear hok
          clear hr
          have hki : (k : Int) < (L.length : Int) := by omega
          go_upto_region 10 with fail
          refine wp_name fun w1 hw1 => ?_
          have d0 : w1.cell? ⟨wr.heap.size, 0, none⟩ = some (.int .i64 l) := by rw [hw1]; simp
          have d1 : w1.cell? ⟨wr.heap.size, 1, none⟩ = some (.int .i64 b) := by rw [hw1]; simp
          have d2 : w1.cell? ⟨wr.heap.size, 2, none⟩ = some (.int .i64 h) := by rw [hw1]; simp
          have hF : Fr NoB wr w1 := by rw [hw1]; (repeat (first | exact Fr.refl _ _ | refine Fr.alloc ?_ _ | refine Fr.setNew ?_ (by omega) _ _ | refine Fr.drewN ?_ _ | refine Fr.drew ?_))
          have hrow := hF.row HRow.out (fun h => h)
          clear hw1 c0 c1 c2
          have HF1 := Lib.hid (HF.out.trans hF)
          have HR1 := Lib.hid hrow
          have hqw := World.rowIs.lt HRow.out
          clear hF hrow HRow HF
          generalize wr.heap.size = q at *
          go_wp2_with fail
          refine (First_any _ _ _).mono ?_
          rintro e w2 ⟨rfl, hf⟩
          have d0 := cell_fr' hf d0 (fun h => h)
          have d1 := cell_fr' hf d1 (fun h => h)
          have d2 := cell_fr' hf d2 (fun h => h)
          have hrow := hf.row HR1.out (fun h => h)
          have HF2 := Lib.hid (HF1.out.trans hf)
          have HR2 := Lib.hid hrow
          clear hf hrow HR1 HF1
          go_wp2
          go_loopw [7] (fun i wr => A3Rel (L.take k) ⟨⟨l, b⟩, h⟩ q w w.heap.size i wr) (fun i _ => (Tb.lst ⟨l, b⟩ + 1 - intOf i).toNat)
          case atStart =>
            have h0 := Tb.fst_ge HOK.out
            have h1 := Tb.fst_le HOK.out
            refine ⟨(Tb.fst ⟨l, b⟩).toNat, by show Tb.fst ⟨l, b⟩ ≤ _; omega, by show _ ≤ Tb.lst ⟨l, b⟩ + 1; omega, by rw [Int.toNat_of_nonneg h0], HR2.out.congr (fun i hi => ?_), d0, d1, d2, HF2.out⟩
            unfold I
            dsimp only
            rw [if_neg (by omega)]
          case round =>
            clear d0 d1 d2 HR2 HF2
            obtain ⟨x, hx0, hx1, rfl, hrow, d0, d1, d2, hf⟩ := hrel
            dsimp only at hx0 hx1 d0 d1 d2
            have HF := Lib.hid hf; clear hf; have HRow := Lib.hid hrow; clear hrow
            go_wp2_with fail
            refine (Last_any _ _ _).mono ?_
            rintro e w3 ⟨rfl, hf⟩
            have d0 := cell_fr' hf d0 (fun h => h)
            have d1 := cell_fr' hf d1 (fun h => h)
            have d2 := cell_fr' hf d2 (fun h => h)
            have hrow := hf.row HRow.out (fun h => h)
            have HF2 := Lib.hid (HF.out.trans hf)
            clear hf HF HRow
            have hl8 := (Tb.fst_le HOK.out).2
            generalize hls : Tb.lst ⟨l, b⟩ = z at *
            by_cases hxz : (x : Int) ≤ z
            · have cz := rowI_cell hrow (i := x) (by omega)
              have fz := World.rowIs.frozen hrow x
              have hx256 : (x : Int) < 256 := by omega
              have HR2 := Lib.hid hrow; clear hrow
              go_wp2
              go_roundw
              case rel =>
                refine ⟨x + 1, by dsimp only; omega, by dsimp only; omega, by go_num, rowI_set HR2.out x h (fun j hj => ?_), cell_set d0 (by omega), cell_set d1 (by omega), cell_set d2 (by omega), HF2.out.setNew (Nat.le_refl _) _ _⟩
                dsimp only
                by_cases e : j = x
                · subst e; rw [if_pos ⟨hx0, by omega⟩, if_pos rfl]
                · rw [if_neg e]
                  have : (Tb.fst ⟨l, b⟩ ≤ (j : Int) ∧ j < x + 1) ↔ (Tb.fst ⟨l, b⟩ ≤ (j : Int) ∧ j < x) := by omega
                  simp only [this]
              case measure => simp [intOf]; omega
            · have hr : w3.rowIs w.heap.size 3 256 (I (fun n => Tb.look (L.take (k + 1)) n)) := hrow.congr (fun i hi => by
                unfold I
                dsimp only
                rw [HST.out, ← lookF_in (x := x) HOK.out (by rw [hls]; omega)])
              have HR2 := Lib.hid hr; clear hr hrow
              go_wp2
              go_roundw
              case rel => exact ⟨k + 1, by omega, by go_num, HR2.out, HF2.out⟩
              case measure => simp [intOf]; omega
        · have e : L.take k = L := List.take_of_length_le (by omega)
          have hr := HRow.out
          rw [e] at hr
          have HR := Lib.hid hr; clear hr
          clear e
          go_wp2
          go_ret
          exact ⟨_, rfl, Nat.le_refl _, HR.out, HF.out⟩
end Go.Proofs.Ytdkkeaegmmepfaa
