/- Walks: Get, GetOf, Look (of both), SameRoutes. -/
import Derived.Test.YtffoilacaffdgaaGreatDoorB4
import Derived.Deep.AppendLies
import Derived.Lib.Overlaps
import Derived.Lib.AppendZerosOnto
import Derived.Laws.IdiomCopy
import Derived.Laws.NewBlocks
import Derived.Laws.Externs
import Derived.Shelf.RegionOpenPlain
namespace Go.Proofs.YtffoilacaffdgaaGreatDoor
open Go.RowKit Go.Deep

def LookRel (L : List Tb.Rt) (a : Int) (w : World) (h i : Value) (wr : World) : Prop := ∃ k : Nat, k ≤ L.length ∧ i = .int .i64 k ∧ h = .int .i64 (Tb.look (L.take k) a) ∧ Fr NoB w wr
set_option maxRecDepth 100000 in
set_option maxHeartbeats 4000000 in
theorem Look_any (t : Nat) (a : Option Addr) (c : Nat) (L : List Tb.Rt) (x : Int) (w : World) (hl : L.length ≤ 1000) (ha : Rs w a L) (hc : w.cell? ⟨t, 0, none⟩ = some (.slice a L.length c)) :
    Calls Tryz.prog 120 #[.pointer (some ⟨t, 0, none⟩), .int .i64 x] w (IntFr (Tb.look L x) w) := by
  have HA := Lib.hid ha; clear ha
  go_enter Tryz.func120, Tryz.ntmps120
  go_wp2
  go_loopw [5, 13] (fun h i wr => LookRel L x w h i wr) (fun _ i _ => L.length - (intOf i).toNat)
  case atStart => exact ⟨0, by omega, rfl, by rw [List.take_zero]; rfl, Fr.refl _ _⟩
  case round =>
    obtain ⟨k, hk, rfl, rfl, hf⟩ := hrel
    have HF := Lib.hid hf; clear hf
    by_cases hkk : k < L.length
    · obtain ⟨b0, o0, rfl, c0, c1, c2⟩ := (HA.out.keep0 HF.out) k hkk
      have hst : Tb.look (L.take (k + 1)) x = Tb.lookF x (Tb.look (L.take k) x) (Tb.nth L k) := by rw [Tb.take_succ hkk, Tb.look_app]
      generalize hr : Tb.nth L k = r at *
      obtain ⟨⟨l, b⟩, h⟩ := r
      dsimp only at c0 c1 c2
      have HST := Lib.hid hst; clear hst
      clear hr
      have hki : (k : Int) < (L.length : Int) := by omega
      go_upto_region 5 with fail
      refine wp_name fun w1 hw1 => ?_
      have d0 : w1.cell? ⟨wr.heap.size, 0, none⟩ = some (.int .i64 l) := by rw [hw1]; simp
      have d1 : w1.cell? ⟨wr.heap.size, 1, none⟩ = some (.int .i64 b) := by rw [hw1]; simp
      have d2 : w1.cell? ⟨wr.heap.size, 2, none⟩ = some (.int .i64 h) := by rw [hw1]; simp
      have hF : Fr NoB wr w1 := by rw [hw1]; (repeat (first | exact Fr.refl _ _ | refine Fr.alloc ?_ _ | refine Fr.setNew ?_ (by omega) _ _ | refine Fr.drewN ?_ _ | refine Fr.drew ?_))
      clear hw1 c0 c1 c2
      have HF1 := Lib.hid (HF.out.trans hF)
      clear hF
      by_cases hh : Tb.has ⟨l, b⟩ x
      · have hd := decide_eq_true hh
        have hst := HST.out
        unfold Tb.lookF at hst
        rw [if_pos hh] at hst
        dsimp only at hst
        clear HST
        have HD := Lib.hid hd; clear hd; have HH := Lib.hid hh; clear hh; have HST := Lib.hid hst; clear hst
        go_wp2_with fail
        refine (Has_any _ _ _ _).mono ?_
        rw [HD.out]
        rintro e w2 ⟨rfl, hf⟩
        have d2 := cell_fr' hf d2 (fun h => h)
        have HF2 := Lib.hid (HF1.out.trans hf)
        clear hf
        go_wp2
        go_roundw
        case rel => exact ⟨k + 1, by omega, by go_num, by rw [HST.out], HF2.out⟩
        case measure => simp [intOf]; omega
      · have hd := decide_eq_false hh
        have hst := HST.out
        unfold Tb.lookF at hst
        rw [if_neg hh] at hst
        clear HST
        have HD := Lib.hid hd; clear hd; have HH := Lib.hid hh; clear hh; have HST := Lib.hid hst; clear hst
        go_wp2_with fail
        refine (Has_any _ _ _ _).mono ?_
        rw [HD.out]
        rintro e w2 ⟨rfl, hf⟩
        have HF2 := Lib.hid (HF1.out.trans hf)
        clear hf
        go_wp2
        go_roundw
        case rel => exact ⟨k + 1, by omega, by go_num, by rw [HST.out], HF2.out⟩
        case measure => simp [intOf]; omega
    · have e : L.take k = L := List.take_of_length_le (by omega)
      rw [e]
      clear e
      go_wp2
      go_ret
      exact ⟨rfl, HF.out⟩

end Go.Proofs.YtffoilacaffdgaaGreatDoor
/- Walks: All, AllOf. -/
namespace Go.Proofs.YtffoilacaffdgaaGreatDoor
open Go.RowKit Go.Deep

theorem mk256 (w : World) : (Instr.makeSlice 76 (.int .i64 256) (.int .i64 256)).run Tryz.prog w = .ok (.slice (some ⟨w.heap.size, 0, none⟩) 256 256) (w.alloc (.cells (Array.replicate 256 (.int .i64 0)) 3)) := by kernel_rfl
/-- All 256 answers. -/
def AllPost (f : Nat → Int) (w : World) (e : Ending) (w' : World) : Prop :=
  ∃ g, e = .returned (.slice (some ⟨g, 0, none⟩) 256 256) ∧ w.heap.size ≤ g ∧ w'.rowIs g 3 256 (I f) ∧ Fr NoB w w'
theorem lookF_in {l b h T : Int} {n x : Nat} (hok : Tb.ok ⟨l, b⟩) (hx : (x : Int) = Tb.lst ⟨l, b⟩ + 1) : (if Tb.fst ⟨l, b⟩ ≤ (n : Int) ∧ n < x then h else T) = Tb.lookF n T ⟨⟨l, b⟩, h⟩ := by
  unfold Tb.lookF
  by_cases k : Tb.fst ⟨l, b⟩ ≤ (n : Int) ∧ n < x
  · rw [if_pos k, if_pos ⟨hok, k.1, by dsimp only; omega⟩]
  · rw [if_neg k, if_neg (fun h => k ⟨h.2.1, by have := h.2.2; dsimp only at this; omega⟩)]
theorem cell_set {w : World} {b o g i : Nat} {v u : Value} (h : w.cell? ⟨b, o, none⟩ = some v) (hne : b ≠ g) : (w.setCell ⟨g, i, none⟩ u).cell? ⟨b, o, none⟩ = some v := by
  rw [World.cell?_setCell_other _ _ _ _ (fun e => hne (by cases e; rfl))]
  exact h
def A1Rel (w : World) (g : Nat) (i : Value) (wr : World) : Prop :=
  ∃ k : Nat, (k : Int) ≤ 256 ∧ i = .int .i64 k ∧ wr.rowIs g 3 256 (I (fun n => if n < k then -1 else 0)) ∧ Fr NoB w wr
def A2Rel (L : List Tb.Rt) (w : World) (g : Nat) (i : Value) (wr : World) : Prop :=
  ∃ k : Nat, k ≤ L.length ∧ i = .int .i64 k ∧ wr.rowIs g 3 256 (I (fun n => Tb.look (L.take k) n)) ∧ Fr NoB w wr
def A3Rel (T : List Tb.Rt) (r : Tb.Rt) (q : Nat) (w : World) (g : Nat) (i : Value) (wr : World) : Prop :=
  ∃ x : Nat, Tb.fst r.p ≤ (x : Int) ∧ (x : Int) ≤ Tb.lst r.p + 1 ∧ i = .int .i64 x ∧ wr.rowIs g 3 256 (I (fun n => if Tb.fst r.p ≤ (n : Int) ∧ n < x then r.hop else Tb.look T n)) ∧
    wr.cell? ⟨q, 0, none⟩ = some (.int .i64 r.p.len) ∧ wr.cell? ⟨q, 1, none⟩ = some (.int .i64 r.p.bits) ∧ wr.cell? ⟨q, 2, none⟩ = some (.int .i64 r.hop) ∧ Fr NoB w wr
set_option maxRecDepth 100000 in
set_option maxHeartbeats 4000000 in
theorem All_any (t : Nat) (a : Option Addr) (c : Nat) (L : List Tb.Rt) (w : World) (hl : L.length ≤ 1000) (hw : Tb.Wf L) (ha : Rs w a L) (hc : w.cell? ⟨t, 0, none⟩ = some (.slice a L.length c)) :
    Calls Tryz.prog 150 #[.pointer (some ⟨t, 0, none⟩)] w (AllPost (fun n => Tb.look L n) w) := by
  have HA := Lib.hid ha; clear ha; have HW := Lib.hid hw; clear hw; have HC := Lib.hid hc; clear hc
  have hmk := mk256
  go_enter Tryz.func150, Tryz.ntmps150
  go_wp2
  go_loopw [11] (fun i wr => A1Rel w w.heap.size i wr) (fun i _ => 256 - (intOf i).toNat)
  case atStart => exact ⟨0, by omega, rfl, (rowIs_new w 256 (.int .i64 0) 3).congr (fun i _ => by simp [I]), (Fr.refl _ _).alloc _⟩
  case round =>
    obtain ⟨k, hk, rfl, hrow, hf⟩ := hrel
    by_cases hkk : (k : Int) < 256
    · have cz := rowI_cell hrow (i := k) (by omega)
      have fz := World.rowIs.frozen hrow k
      have HF := Lib.hid hf; clear hf; have HRow := Lib.hid hrow; clear hrow
      go_wp2
      go_roundw
      case rel => exact ⟨k + 1, by omega, by go_num, rowI_set HRow.out k _ (fun j hj => by
        by_cases e : j = k
        · subst e; simp
        · have : j < k + 1 ↔ j < k := by omega
          simp [e, this]), HF.out.setNew (Nat.le_refl _) _ _⟩
      case measure => simp [intOf]; omega
    · have hr : wr.rowIs w.heap.size 3 256 (I (fun n => Tb.look (L.take 0) n)) := hrow.congr (fun i hi => by unfold I; dsimp only; rw [if_pos (by omega)]; rfl)
      have hc := cell_fr' hf HC.out (fun h => h)
      have HF := Lib.hid hf; clear hf; have HR := Lib.hid hr; clear hr
      clear hrow
      go_wp2
      go_loopw [23] (fun i wr => A2Rel L w w.heap.size i wr) (fun i _ => L.length - (intOf i).toNat)
      case atStart => exact ⟨0, by omega, rfl, HR.out, HF.out⟩
      case round =>
        clear HR HF
        obtain ⟨k, hk, rfl, hrow, hf⟩ := hrel
        have HF := Lib.hid hf; clear hf; have HRow := Lib.hid hrow; clear hrow
        by_cases hkk : k < L.length
        · obtain ⟨b0, o0, rfl, c0, c1, c2⟩ := (HA.out.keep0 HF.out) k hkk
          have hok := HW.out.ok (Tb.nth_mem hkk)
          have hst : ∀ n : Nat, Tb.look (L.take (k + 1)) n = Tb.lookF n (Tb.look (L.take k) n) (Tb.nth L k) := fun n => by rw [Tb.take_succ hkk, Tb.look_app]
          generalize hr : Tb.nth L k = r at *
          obtain ⟨⟨l, b⟩, h⟩ := r
          dsimp only at c0 c1 c2 hok
          have HST := Lib.hid hst; clear hst; have HOK := Lib.hid hok; clear hok
          clear hr
          have hki : (k : Int) < (L.length : Int) := by omega
          go_upto_region 10 with fail
          refine wp_name fun w1 hw1 => ?_
          have d0 : w1.cell? ⟨wr.heap.size, 0, none⟩ = some (.int .i64 l) := by rw [hw1]; simp
          have d1 : w1.cell? ⟨wr.heap.size, 1, none⟩ = some (.int .i64 b) := by rw [hw1]; simp
          have d2 : w1.cell? ⟨wr.heap.size, 2, none⟩ = some (.int .i64 h) := by rw [hw1]; simp
          have hF : Fr NoB wr w1 := by rw [hw1]; (repeat (first | exact Fr.refl _ _ | refine Fr.alloc ?_ _ | refine Fr.setNew ?_ (by omega) _ _ | refine Fr.drewN ?_ _ | refine Fr.drew ?_))
          have hrow := hF.row HRow.out (fun h => h)
          clear hw1 c0 c1 c2
          have HF1 := Lib.hid (HF.out.trans hF)
          have HR1 := Lib.hid hrow
          have hqw := World.rowIs.lt HRow.out
          clear hF hrow HRow HF
          generalize wr.heap.size = q at *
          go_wp2_with fail
          refine (First_any _ _ _).mono ?_
          rintro e w2 ⟨rfl, hf⟩
          have d0 := cell_fr' hf d0 (fun h => h)
          have d1 := cell_fr' hf d1 (fun h => h)
          have d2 := cell_fr' hf d2 (fun h => h)
          have hrow := hf.row HR1.out (fun h => h)
          have HF2 := Lib.hid (HF1.out.trans hf)
          have HR2 := Lib.hid hrow
          clear hf hrow HR1 HF1
          go_wp2
          go_loopw [7] (fun i wr => A3Rel (L.take k) ⟨⟨l, b⟩, h⟩ q w w.heap.size i wr) (fun i _ => (Tb.lst ⟨l, b⟩ + 1 - intOf i).toNat)
          case atStart =>
            have h0 := Tb.fst_ge HOK.out
            have h1 := Tb.fst_le HOK.out
            refine ⟨(Tb.fst ⟨l, b⟩).toNat, by show Tb.fst ⟨l, b⟩ ≤ _; omega, by show _ ≤ Tb.lst ⟨l, b⟩ + 1; omega, by rw [Int.toNat_of_nonneg h0], HR2.out.congr (fun i hi => ?_), d0, d1, d2, HF2.out⟩
            unfold I
            dsimp only
            rw [if_neg (by omega)]
          case round =>
            clear d0 d1 d2 HR2 HF2
            obtain ⟨x, hx0, hx1, rfl, hrow, d0, d1, d2, hf⟩ := hrel
            dsimp only at hx0 hx1 d0 d1 d2
            have HF := Lib.hid hf; clear hf; have HRow := Lib.hid hrow; clear hrow
            go_wp2_with fail
            refine (Last_any _ _ _).mono ?_
            rintro e w3 ⟨rfl, hf⟩
            have d0 := cell_fr' hf d0 (fun h => h)
            have d1 := cell_fr' hf d1 (fun h => h)
            have d2 := cell_fr' hf d2 (fun h => h)
            have hrow := hf.row HRow.out (fun h => h)
            have HF2 := Lib.hid (HF.out.trans hf)
            clear hf HF HRow
            have hl8 := (Tb.fst_le HOK.out).2
            generalize hls : Tb.lst ⟨l, b⟩ = z at *
            by_cases hxz : (x : Int) ≤ z
            · have cz := rowI_cell hrow (i := x) (by omega)
              have fz := World.rowIs.frozen hrow x
              have hx256 : (x : Int) < 256 := by omega
              have HR2 := Lib.hid hrow; clear hrow
              go_wp2
              go_roundw
              case rel =>
                refine ⟨x + 1, by dsimp only; omega, by dsimp only; omega, by go_num, rowI_set HR2.out x h (fun j hj => ?_), cell_set d0 (by omega), cell_set d1 (by omega), cell_set d2 (by omega), HF2.out.setNew (Nat.le_refl _) _ _⟩
                dsimp only
                by_cases e : j = x
                · subst e; rw [if_pos ⟨hx0, by omega⟩, if_pos rfl]
                · rw [if_neg e]
                  have : (Tb.fst ⟨l, b⟩ ≤ (j : Int) ∧ j < x + 1) ↔ (Tb.fst ⟨l, b⟩ ≤ (j : Int) ∧ j < x) := by omega
                  simp only [this]
              case measure => simp [intOf]; omega
            · have hr : w3.rowIs w.heap.size 3 256 (I (fun n => Tb.look (L.take (k + 1)) n)) := hrow.congr (fun i hi => by
                unfold I
                dsimp only
                rw [HST.out, ← lookF_in (x := x) HOK.out (by rw [hls]; omega)])
              have HR2 := Lib.hid hr; clear hr hrow
              go_wp2
              go_roundw
              case rel => exact ⟨k + 1, by omega, by go_num, HR2.out, HF2.out⟩
              case measure => simp [intOf]; omega
        · have e : L.take k = L := List.take_of_length_le (by omega)
          have hr := HRow.out
          rw [e] at hr
          have HR := Lib.hid hr; clear hr
          clear e
          go_wp2
          go_ret
          exact ⟨_, rfl, Nat.le_refl _, HR.out, HF.out⟩
end Go.Proofs.YtffoilacaffdgaaGreatDoor
/- Walks: New, Clone, List, Of of tables; what a table is in memory. -/
namespace Go.Proofs.YtffoilacaffdgaaGreatDoor
open Go.RowKit Go.Deep

theorem Tryz.info134 : (Tryz.prog.info? 134).map (fun i => (i.zero, i.size, i.bytes)) = some (some (.agg #[.int .i64 0, .int .i64 0, .int .i64 0]), 3, 24) := by kernel_rfl
/-- The cells of routes. -/
def rtI (L : List Tb.Rt) : List Int := L.flatMap fun r => [r.p.len, r.p.bits, r.hop]
theorem rtI_len : ∀ L : List Tb.Rt, (rtI L).length = L.length * 3
  | [] => rfl
  | r :: L => by
    have := rtI_len L
    simp only [rtI, List.flatMap_cons, List.length_append, List.length_cons, List.length_nil] at this ⊢
    omega
theorem rtI_app (A B : List Tb.Rt) : rtI (A ++ B) = rtI A ++ rtI B := by simp [rtI]
theorem rtI_take : ∀ (L : List Tb.Rt) (i : Nat), (rtI L).take (i * 3) = rtI (L.take i)
  | [], i => by simp [rtI]
  | r :: L, 0 => by simp [rtI]
  | r :: L, i + 1 => by
    have := rtI_take L i
    rw [List.take_succ_cons]
    show ([r.p.len, r.p.bits, r.hop] ++ rtI L).take ((i + 1) * 3) = [r.p.len, r.p.bits, r.hop] ++ rtI (L.take i)
    rw [← this, List.take_append, show (i + 1) * 3 - [r.p.len, r.p.bits, r.hop].length = i * 3 from by simp only [List.length_cons, List.length_nil]; omega]
    congr 1
    rw [List.take_of_length_le (by simp only [List.length_cons, List.length_nil]; omega)]
theorem rtI_drop : ∀ (L : List Tb.Rt) (i : Nat), (rtI L).drop (i * 3) = rtI (L.drop i)
  | [], i => by simp [rtI]
  | r :: L, 0 => by simp [rtI]
  | r :: L, i + 1 => by
    have := rtI_drop L i
    rw [List.drop_succ_cons, ← this]
    show ([r.p.len, r.p.bits, r.hop] ++ rtI L).drop ((i + 1) * 3) = _
    rw [List.drop_append, show (i + 1) * 3 - [r.p.len, r.p.bits, r.hop].length = i * 3 from by simp only [List.length_cons, List.length_nil]; omega, List.drop_eq_nil_of_le (by simp only [List.length_cons, List.length_nil]; omega), List.nil_append]
theorem rtI_at : ∀ (L : List Tb.Rt) (k : Nat), k < L.length → (rtI L).getD (k * 3) 0 = (Tb.nth L k).p.len ∧ (rtI L).getD (k * 3 + 1) 0 = (Tb.nth L k).p.bits ∧ (rtI L).getD (k * 3 + 2) 0 = (Tb.nth L k).hop
  | [], k, h => by simp at h
  | r :: L, 0, _ => ⟨rfl, rfl, rfl⟩
  | r :: L, k + 1, h => by
    have := rtI_at L k (by simpa using h)
    rw [show (k + 1) * 3 = k * 3 + 3 from by omega]
    exact this
/-- Routes that the call made, in a block of their own. -/
def SlR (w : World) (base : Nat) (v : Value) (L : List Tb.Rt) : Prop := w.ownsRow base 134 3 v L.length ((rtI L).map (Value.int .i64))
theorem Rs.of_rd {w : World} {a : Option Addr} {L : List Tb.Rt} {X : Nat → Int} (h : Rd w a (L.length * 3) X) (hX : ∀ k, k < L.length → X (k * 3) = (Tb.nth L k).p.len ∧ X (k * 3 + 1) = (Tb.nth L k).p.bits ∧ X (k * 3 + 2) = (Tb.nth L k).hop) : Rs w a L := by
  intro k hk
  obtain ⟨b0, o0, h1, c0⟩ := h (k * 3) (by omega)
  obtain ⟨b1, o1, h2, c1⟩ := h (k * 3 + 1) (by omega)
  obtain ⟨b2, o2, h3, c2⟩ := h (k * 3 + 2) (by omega)
  rw [h1] at h2 h3
  cases h2; cases h3
  obtain ⟨e0, e1, e2⟩ := hX k hk
  rw [e0] at c0
  rw [e1] at c1
  rw [e2] at c2
  exact ⟨b0, o0, h1, c0, c1, c2⟩
theorem SlR.shape {w : World} {base : Nat} {v : Value} {L : List Tb.Rt} (h : SlR w base v L) :
    ∃ a cap, v = .slice a L.length cap ∧ Rs w a L ∧ (∀ p, a = some p → base ≤ p.block ∧ v.ownBlock = some p.block) ∧ L.length ≤ cap := by
  obtain ⟨a, cap, rfl, hr, hb, _, hn, _, hz⟩ := ownsRow_rd h
  refine ⟨a, cap, rfl, Rs.of_rd hr (fun k hk => rtI_at L k hk), fun p hp => ⟨hb p hp, ?_⟩, hn⟩
  subst hp
  rw [hz p rfl]
  rfl
theorem SlR.nil (w : World) (base : Nat) : SlR w base (.slice none 0 0) [] := World.ownsRow_nil _ _ _ _
/-- A table in memory. -/
structure TAt (w : World) (t : Nat) (v : Value) (L : List Tb.Rt) : Prop where
  row : w.rowIs t 112 1 (fun _ => v)
  sl : SlR w 0 v L
  ne : v.ownBlock ≠ some t
theorem TAt.c0 {w : World} {t : Nat} {v : Value} {L : List Tb.Rt} (h : TAt w t v L) : w.cell? ⟨t, 0, none⟩ = some v := World.rowIs.cell h.row (i := 0) (by omega)
theorem TAt.keep {S : Nat → Prop} {w w' : World} {t : Nat} {v : Value} {L : List Tb.Rt} (h : TAt w t v L) (hf : Fr S w w') (h1 : ¬ S t) (h2 : ∀ g, v.ownBlock = some g → ¬ S g) : TAt w' t v L :=
  ⟨hf.row h.row h1, own_keep h.sl hf h2, h.ne⟩
theorem TAt.keep0 {w w' : World} {t : Nat} {v : Value} {L : List Tb.Rt} (h : TAt w t v L) (hf : Fr NoB w w') : TAt w' t v L := h.keep hf (fun h => h) (fun _ _ h => h)

def NewTbPost (w : World) (e : Ending) (w' : World) : Prop := e = .returned (.pointer (some ⟨w.heap.size, 0, none⟩)) ∧ TAt w' w.heap.size (.slice none 0 0) [] ∧ Fr NoB w w'
set_option maxHeartbeats 400000 in
theorem NewT (w : World) : Calls Tryz.prog 22 #[] w (NewTbPost w) := by
  go_enter Tryz.func22, Tryz.ntmps22
  go_wp2
  go_ret
  exact ⟨rfl, ⟨rowIs_new w 1 (.slice none 0 0) 112, SlR.nil _ _, by intro h; cases h⟩, (Fr.refl _ _).alloc _⟩

def ClonePost (L : List Tb.Rt) (w : World) (e : Ending) (w' : World) : Prop := ∃ v, e = .returned v ∧ SlR w' w.heap.size v L ∧ Fr NoB w w'
theorem ints_one (l : List Int) : ∀ u ∈ l.map (Value.int .i64), u.oneCell' = true := by
  intro u hu
  obtain ⟨y, _, rfl⟩ := List.mem_map.1 hu
  rfl
theorem Rs.news {w : World} {ad : Addr} {L : List Tb.Rt} (h : Rs w (some ad) L) (hs : ad.spot = none) : ∀ (j : Nat) (u : Value), ((rtI L).map (Value.int .i64))[j]? = some u → w.cell? (ad.add j) = some u := by
  intro j u hj
  have hjl : j < L.length * 3 := by
    have := (List.getElem?_eq_some_iff.1 hj).1
    rwa [List.length_map, rtI_len] at this
  have hk : j / 3 < L.length := by omega
  obtain ⟨b, o, e, c0, c1, c2⟩ := h (j / 3) hk
  cases e
  obtain ⟨e0, e1, e2⟩ := rtI_at L (j / 3) hk
  have hu : u = .int .i64 ((rtI L).getD j 0) := by
    rw [List.getElem?_map] at hj
    have : (rtI L)[j]? = some ((rtI L)[j]'(by rw [rtI_len]; exact hjl)) := List.getElem?_eq_getElem _
    rw [this] at hj
    simp only [Option.map_some, Option.some.injEq] at hj
    rw [← hj, List.getD_eq_getElem?_getD, this]
    rfl
  have ha : (⟨b, o, none⟩ : Addr).add j = ⟨b, o + j, none⟩ := by
    unfold Addr.add
    split
    · rename_i h; rw [h]; rfl
    · rfl
  rw [ha, hu]
  have h3 : j % 3 = 0 ∨ j % 3 = 1 ∨ j % 3 = 2 := by omega
  rcases h3 with h3 | h3 | h3
  · have e : j = j / 3 * 3 := by omega
    rw [e, e0]
    exact c0
  · have e : j = j / 3 * 3 + 1 := by omega
    rw [e, e1, ← Nat.add_assoc]
    exact c1
  · have e : j = j / 3 * 3 + 2 := by omega
    rw [e, e2, ← Nat.add_assoc]
    exact c2
set_option maxRecDepth 100000 in
set_option maxHeartbeats 4000000 in
theorem CloneR_any (a : Option Addr) (c : Nat) (L : List Tb.Rt) (w : World) (hl : L.length ≤ 1000) (ha : Rs w a L) :
    Calls Tryz.prog 108 #[.slice a L.length c] w (ClonePost L w) := by
  cases a with
  | none =>
    have h0 : L = [] := by
      by_cases h : L.length = 0
      · exact List.eq_nil_of_length_eq_zero h
      · obtain ⟨b, o, e, _⟩ := ha 0 (by omega)
        cases e
    subst h0
    clear ha hl
    have hq := fun w => Lib.run_eql_slice_nil (P := Tryz.prog) w 68 134 none 0 c 0 0 Tryz.underlying68
    dsimp only [Option.isNone] at hq
    go_enter Tryz.func108, Tryz.ntmps108
    go_wp2
    go_ret
    exact ⟨_, rfl, SlR.nil _ _, Fr.refl _ _⟩
  | some ad =>
    obtain ⟨b, o, sp⟩ := ad
    have hF := (Fr.refl NoB w).alloc (.cells #[] 134)
    have hN : ∀ (j : Nat) (u : Value), ((rtI L).map (Value.int .i64))[j]? = some u → (w.alloc (.cells #[] 134)).cell? ((⟨b, o, sp⟩ : Addr).add j) = some u := by
      by_cases h : L.length = 0
      · rw [List.eq_nil_of_length_eq_zero h]
        intro j u hj
        cases hj
      · obtain ⟨_, _, e, _⟩ := ha 0 (by omega)
        cases e
        exact Rs.news (ha.keep0 hF) rfl
    have HN := Lib.hid hN
    clear hN
    have hown : (w.alloc (.cells #[] 134)).ownsRow w.heap.size 134 3 (.slice (some ⟨w.heap.size, 0, none⟩) 0 0) 0 [] := row_own (f := fun _ => .int .i64 0) (cap := 0) (World.rowIs_alloc w #[] 134 _ (by intro i hi; simp at hi)) (Nat.le_refl _) (Nat.le_refl _) (by unfold maxLen; omega) rfl (by intro k hk; omega)
    have hll : ((rtI L).map (Value.int .i64)).length = L.length * 3 := by rw [List.length_map, rtI_len]
    have HO := Lib.hid hown
    have HL := Lib.hid hll
    clear ha hF hown hll
    have hq := fun w => Lib.run_eql_slice_nil (P := Tryz.prog) w 68 134 (some ⟨b, o, sp⟩) L.length c 0 0 Tryz.underlying68
    dsimp only [Option.isNone] at hq
    go_enter Tryz.func108, Tryz.ntmps108
    go_wp2_with (at_builtin; refine app_own rfl _ _ 68 134 3 24 _ rfl Tryz.underlying68 Tryz.info134 rfl (by omega) w.heap.size (.slice (some ⟨w.heap.size, 0, none⟩) 0 0) 0 [] rfl HO.out ⟨b, o, sp⟩ L.length c ((rtI L).map (Value.int .i64)) rfl HL.out HN.out (ints_one _) (by omega) (by omega) (by simp) ?_; intro v' w1 hv hf)
    go_ret
    refine ⟨v', rfl, ?_, ?_⟩
    · have hv := hv
      rw [Nat.zero_add, List.nil_append] at hv
      exact hv
    · exact ((Fr.refl NoB w).alloc _).trans' hf (fun i hi h => by cases h; exact absurd hi (Nat.lt_irrefl _))

theorem TAt.shape {w : World} {t : Nat} {v : Value} {L : List Tb.Rt} (h : TAt w t v L) :
    ∃ a cap, v = .slice a L.length cap ∧ Rs w a L ∧ (∀ p, a = some p → p.spot = none) ∧ w.cell? ⟨t, 0, none⟩ = some (.slice a L.length cap) := by
  obtain ⟨a, cap, rfl, hr, hb, _, hn, _, hz⟩ := ownsRow_rd h.sl
  exact ⟨a, cap, rfl, Rs.of_rd hr (fun k hk => rtI_at L k hk), fun p hp => by rw [hz p hp], h.c0⟩
set_option maxHeartbeats 4000000 in
theorem ListT_any (t : Nat) (v : Value) (L : List Tb.Rt) (w : World) (hl : L.length ≤ 1000) (h : TAt w t v L) :
    Calls Tryz.prog 77 #[.pointer (some ⟨t, 0, none⟩)] w (ClonePost L w) := by
  obtain ⟨a, c, rfl, hr, _, hc⟩ := h.shape
  clear h
  have HR := Lib.hid hr; clear hr
  go_enter Tryz.func77, Tryz.ntmps77
  go_wp2_with fail
  refine (CloneR_any a c L _ hl HR.out).mono ?_
  rintro e w1 ⟨v', rfl, hv, hf⟩
  have HV := Lib.hid hv; clear hv; have HF := Lib.hid hf; clear hf
  go_wp2
  go_ret
  exact ⟨v', rfl, HV.out, HF.out⟩

def OfTbPost (L : List Tb.Rt) (w : World) (e : Ending) (w' : World) : Prop :=
  (Tb.chk L ≠ 0 ∧ e = .returned (.tuple #[.pointer none, .int .i64 (Tb.chk L)]) ∧ Fr NoB w w') ∨
  (Tb.chk L = 0 ∧ ∃ t v, e = .returned (.tuple #[.pointer (some ⟨t, 0, none⟩), .int .i64 0]) ∧ TAt w' t v L ∧ w.heap.size ≤ t ∧ Fr NoB w w')
end Go.Proofs.YtffoilacaffdgaaGreatDoor
/- Walks: slices.Insert of one route. -/
namespace Go.Proofs.YtffoilacaffdgaaGreatDoor
open Go.RowKit Go.Deep

/-- 'copy' of n elements of 'size' cells each. -/
theorem run_copy_rows {P : Program} (w : World) (dT sT ty elem : TypeId) (b o dLen dCap : Nat) (a : Addr) (sLen sCap : Nat) (cs : List Value) (size n : Nat)
    (hu : P.underlying dT = some (.slice elem)) (hs : (P.info? elem).map (·.size) = some size) (hn : n = Nat.min sLen dLen) (hl : cs.length = n * size)
    (hsrc : ∀ j v, cs[j]? = some v → w.cell? (a.add j) = some v) (hc : ∀ j, j < cs.length → (w.cell? ⟨b, o + j, none⟩).isSome = true) (hf : ∀ j, j < cs.length → w.frozen? ⟨b, o + j, none⟩ = false) (h1 : ∀ v ∈ cs, v.oneCell' = true) :
    (Builtin.copy_ #[dT, sT] ty #[.slice (some ⟨b, o, none⟩) dLen dCap, .slice (some a) sLen sCap]).run P w = .ok (goInt n) (w.setCells b o cs) := by
  have hld := run_loadCells_list (P := P) w a cs hsrc
  have hst := run_storeCells_cells (P := P) b o cs 0 w (by simpa using hc) (by simpa using hf) h1
  rw [hl] at hld
  cases hq : P.info? elem with
  | none => simp [hq] at hs
  | some i =>
    have hi : i.size = size := by simpa [hq] using hs
    simp [Builtin.copy_, run_underlying hu, Builtin.lenOf, Builtin.firstCells, sizeOf, typeInfo, hq, hi, ← hn, hld, hst]
theorem step_copy_run {P : Program} {ops : Array Oper} {o : Oper} {a : Act} {w : World} {K : Act → World → Prop} {Q : Exit → Act → World → Prop} {E : Prop}
    (hg : o.guard = none) (d x : Operand) (dT sT : TypeId) (hop : o.op = Op.call { callee := Callee.builtin Builtin.copy, args := #[d, x], argTypes := #[dT, sT] })
    (v u : Value) (hd : a.eval d = v) (hx : a.eval x = u) {v' : Value} {w' : World} (hr : (Builtin.copy_ #[dT, sT] o.type #[v, u]).run P w = .ok v' w') (hK : K (a.put o.dst v') w') :
    if Region.wanted o (yielded ops a.tmps) = true then Oper.wp P o a w K Q else E := by
  have hw : Region.wanted o (yielded ops a.tmps) = true := by simp [Region.wanted, hg]
  rw [if_pos hw]
  unfold Oper.wp
  simp [execOp, hop, resolve, invoke, builtin, hd, hx, hr, Result.andThen]
  exact hK
theorem wpList_copy_run {P : Program} (w : World) {ops : Array Oper} {rest : List Oper} {o : Oper} {a : Act} {Q : Exit → Act → World → Prop} (hgd : o.guard = none) (d s : Operand) (t t' : TypeId)
    (ho : o.op = .call { callee := .builtin .copy, args := #[d, s], argTypes := #[t, t'] }) (v u : Value) (hd : a.eval d = v) (hs : a.eval s = u) {v' : Value} {w' : World}
    (hr : (Builtin.copy_ #[t, t'] o.type #[v, u]).run P w = .ok v' w') (h : wpList P ops Q rest (a.put o.dst v') w') : wpList P ops Q (o :: rest) a w := by
  refine wpList_plain hgd fun _ hK => ?_
  unfold Oper.wp execOp
  simp only [ho, resolve, invoke, builtin, Sem.run_bind, Sem.run_pure, Result.andThen_ok, List.map_toArray, List.map_cons, List.map_nil, hd, hs, hr]
  exact hK _ _ h
theorem row_shape {w : World} {b : Nat} {t : TypeId} {n : Nat} {f : Nat → Value} (h : w.rowIs b t n f) : w.shape? b = some (t, n) := by
  obtain ⟨cur, h1, h2, _⟩ := h
  unfold World.shape?
  rw [h1, ← h2]
/-- The route inserted. -/
def InsPost (v : Value) (L : List Tb.Rt) (i : Nat) (r : Tb.Rt) (w : World) (e : Ending) (w' : World) : Prop :=
  ∃ v', e = .returned v' ∧ SlR w' 0 v' (L.take i ++ r :: L.drop i) ∧ Fr (fun k => v.ownBlock = some k) w w' ∧ ∀ g, v'.ownBlock = some g → v.ownBlock = some g ∨ w.heap.size ≤ g
def rtV (r : Tb.Rt) : Nat → Value := fun i => if i = 0 then .int .i64 r.p.len else if i = 1 then .int .i64 r.p.bits else .int .i64 r.hop
def rt3 (r : Tb.Rt) : List Value := [.int .i64 r.p.len, .int .i64 r.p.bits, .int .i64 r.hop]
theorem rt3_at {w : World} {vb : Nat} {r : Tb.Rt} (hv : w.rowIs vb 134 3 (rtV r)) : ∀ (j : Nat) (u : Value), (rt3 r)[j]? = some u → w.cell? ((⟨vb, 0, none⟩ : Addr).add j) = some u := by
  intro j u hj
  rw [add_base]
  match j, hj with
  | 0, hj => cases hj; exact World.rowIs.cell hv (i := 0) (by omega)
  | 1, hj => cases hj; exact World.rowIs.cell hv (i := 1) (by omega)
  | 2, hj => cases hj; exact World.rowIs.cell hv (i := 2) (by omega)
theorem rt3_one (r : Tb.Rt) : ∀ u ∈ rt3 r, u.oneCell' = true := by
  intro u hu
  simp only [rt3, List.mem_cons, List.not_mem_nil, or_false] at hu
  rcases hu with rfl | rfl | rfl <;> rfl
theorem rtI_one (r : Tb.Rt) : (rtI [r]).map (Value.int .i64) = rt3 r := rfl
set_option maxRecDepth 100000 in
set_option maxHeartbeats 4000000 in
theorem Insert_end (v : Value) (L : List Tb.Rt) (r : Tb.Rt) (vb : Nat) (w : World) (hl : L.length ≤ 1000) (h : SlR w 0 v L) (hv : w.rowIs vb 134 3 (rtV r)) :
    Calls Tryz.prog 114 #[v, .int .i64 L.length, .slice (some ⟨vb, 0, none⟩) 1 1] w (InsPost v L L.length r w) := by
  obtain ⟨a, c, rfl, _, _, hc⟩ := h.shape
  have hn := rt3_at hv
  have H := Lib.hid h; clear h; have HN := Lib.hid hn; clear hn
  clear hv
  go_enter Tryz.func114, Tryz.ntmps114
  cases a with
  | none =>
    go_wp2_with (at_builtin; refine app_lies rfl _ _ 68 134 3 24 _ rfl Tryz.underlying68 Tryz.info134 rfl (by omega) 0 _ _ _ rfl H.out ⟨vb, 0, none⟩ 1 1 (rt3 r) rfl rfl HN.out (rt3_one _) (by omega) (by omega) (by omega) (by omega) ?_; intro g cap w1 hv hf hg)
    go_ret
    refine ⟨_, rfl, ?_, hf, fun g' h' => by cases h'; exact hg⟩
    unfold SlR
    rw [List.take_length, List.drop_length, rtI_app, List.map_append, List.length_append, rtI_one]
    exact hv
  | some ad =>
    obtain ⟨b, o, sp⟩ := ad
    go_wp2_with (at_builtin; refine app_lies rfl _ _ 68 134 3 24 _ rfl Tryz.underlying68 Tryz.info134 rfl (by omega) 0 _ _ _ rfl H.out ⟨vb, 0, none⟩ 1 1 (rt3 r) rfl rfl HN.out (rt3_one _) (by omega) (by omega) (by omega) (by omega) ?_; intro g cap w1 hv hf hg)
    all_goals (
      go_ret
      refine ⟨_, rfl, ?_, hf, fun g' h' => by cases h'; exact hg⟩
      unfold SlR
      rw [List.take_length, List.drop_length, rtI_app, List.map_append, List.length_append, rtI_one]
      exact hv)
end Go.Proofs.YtffoilacaffdgaaGreatDoor
/- Walks: slices.Insert of one route ahead of another one, where there is room. -/
namespace Go.Proofs.YtffoilacaffdgaaGreatDoor
open Go.RowKit Go.Deep

theorem rt_mem_one (xs : List Int) (k : Nat) : ∀ u ∈ (xs.map (Value.int .i64)).drop k, u.oneCell' = true := by
  intro u hu
  obtain ⟨y, _, rfl⟩ := List.mem_map.1 (List.mem_of_mem_drop hu)
  rfl
set_option maxRecDepth 100000 in
set_option maxHeartbeats 4000000 in
theorem Insert_shift (g cap : Nat) (L : List Tb.Rt) (i : Nat) (r : Tb.Rt) (vb : Nat) (w : World) (hl : L.length ≤ 1000) (hi : i < L.length) (hroom : L.length < cap) (h : SlR w 0 (.slice (some ⟨g, 0, none⟩) L.length cap) L)
    (hv : w.rowIs vb 134 3 (rtV r)) (hvg : vb ≠ g) :
    Calls Tryz.prog 114 #[.slice (some ⟨g, 0, none⟩) L.length cap, .int .i64 i, .slice (some ⟨vb, 0, none⟩) 1 1] w (InsPost (.slice (some ⟨g, 0, none⟩) L.length cap) L i r w) := by
  obtain ⟨hnc, hcm, _, f, hrow, hx⟩ := own_row h
  have hlen := rtI_len L
  have hcm' : cap ≤ 9223372036854775807 := by unfold maxLen at hcm; omega
  have hgl := World.rowIs.lt hrow
  clear h
  generalize hn : L.length = n at *
  obtain ⟨news, hnews⟩ : ∃ news, news = ((rtI L).map (Value.int .i64)).drop (i * 3) := ⟨_, rfl⟩
  have hnl : news.length = (n - i) * 3 := by rw [hnews, List.length_drop, List.length_map, hlen]; omega
  have hget : ∀ t, t < (n - i) * 3 → news[t]? = some (f (i * 3 + t)) := by
    intro t ht
    rw [hnews, List.getElem?_drop, hx _ (by omega)]
  have h1c : ∀ u ∈ news, u.oneCell' = true := by rw [hnews]; exact rt_mem_one _ _
  have hsz : (Tryz.prog.info? 134).map (·.size) = some 3 := by
    obtain ⟨i0, hi0, hz0, hz1, hz2⟩ := info_parts Tryz.info134
    rw [hi0]; simp [hz1]
  have hsof : ∀ w, (Go.sizeOf 134).run Tryz.prog w = .ok 3 w := by
    obtain ⟨i0, hi0, hz0, hz1, hz2⟩ := info_parts Tryz.info134
    intro w
    simp [Go.sizeOf, typeInfo, hi0, hz1]
  have hov : ∀ lb cb, (callFunc 145 #[.slice (some ⟨vb, 0, none⟩) 1 1, .slice (some ⟨g, (i + 1) * 3, none⟩) lb cb]).run Tryz.prog w = .ok (.value (.bool false)) w := fun lb cb => by
    rw [run_callFunc_extern Tryz.func145 (by kernel_rfl) (by kernel_rfl) (by kernel_rfl) (e := Extern.SlicesOverlaps.overlaps #[68, 68] #[4]) (by kernel_rfl),
      Lib.run_overlaps_apart w 68 4 134 Tryz.underlying68 3 hsof ⟨vb, 0, none⟩ ⟨g, (i + 1) * 3, none⟩ 1 1 lb cb hvg 134 134 3 (cap * 3) (row_shape hv) (row_shape hrow) (by omega) (World.rowIs.frozen hv 0) (World.rowIs.frozen hv 3)]
    rfl
  have hrd := World.rowIs.drew hrow
  have hcp1 : ∀ ty dc sc, (Builtin.copy_ #[68, 68] ty #[.slice (some ⟨g, (i + 1) * 3, none⟩) (n - i) dc, .slice (some ⟨g, i * 3, none⟩) (n + 1 - i) sc]).run Tryz.prog w.drew = .ok (goInt (n - i : Nat)) (w.drew.setCells g ((i + 1) * 3) news) := fun ty dc sc =>
    run_copy_rows w.drew _ _ ty 134 g ((i + 1) * 3) (n - i) dc ⟨g, i * 3, none⟩ (n + 1 - i) sc news 3 (n - i) Tryz.underlying68 hsz (by simp only [Nat.min_def]; split <;> omega) hnl
      (fun j v hj => by
        have hjl : j < (n - i) * 3 := by
          have := (List.getElem?_eq_some_iff.1 hj).1
          omega
        rw [hget j hjl] at hj
        cases hj
        have := World.rowIs.cell hrd (i := i * 3 + j) (by omega)
        rw [Addr.add_lit]
        exact this)
      (fun j hj => by rw [World.rowIs.cell hrd (i := (i + 1) * 3 + j) (by omega)]; rfl) (fun j hj => World.rowIs.frozen hrd _) h1c
  obtain ⟨W1, hW1⟩ : ∃ W1, W1 = w.drew.setCells g ((i + 1) * 3) news := ⟨_, rfl⟩
  have hr1 := rowIs_setCells news ((i + 1) * 3) _ _ hrd
  rw [← hW1] at hr1 hcp1
  have hf1 : Fr (OneB g) w W1 := by rw [hW1]; exact Fr.setCells (S := OneB g) (show OneB g g from rfl) _ _ (Fr.refl _ _).drew
  have hv1 : W1.rowIs vb 134 3 (rtV r) := hf1.row hv (fun e : vb = g => hvg e)
  have hcp2 : ∀ (W : World), (∀ x, W.cell? x = W1.cell? x) → (∀ x, W.frozen? x = W1.frozen? x) → ∀ ty dc, (Builtin.copy_ #[68, 68] ty #[.slice (some ⟨g, i * 3, none⟩) (n + 1 - i) dc, .slice (some ⟨vb, 0, none⟩) 1 1]).run Tryz.prog W = .ok (goInt (1 : Nat)) (W.setCells g (i * 3) (rt3 r)) := fun W hWc hWf ty dc =>
    run_copy_rows W _ _ ty 134 g (i * 3) (n + 1 - i) dc ⟨vb, 0, none⟩ 1 1 (rt3 r) 3 1 Tryz.underlying68 hsz (by simp only [Nat.min_def]; split <;> omega) rfl
      (fun j v hj => by rw [hWc]; exact rt3_at hv1 j v hj)
      (fun j hj => by rw [hWc, World.rowIs.cell hr1 (i := i * 3 + j) (by simp [rt3] at hj; omega)]; rfl) (fun j hj => by rw [hWf]; exact World.rowIs.frozen hr1 _) (rt3_one r)
  have hr2 := rowIs_setCells (rt3 r) (i * 3) _ _ hr1
  have hf2 : Fr (OneB g) w (W1.setCells g (i * 3) (rt3 r)) := Fr.setCells (S := OneB g) (show OneB g g from rfl) _ _ hf1
  have hfin : SlR (W1.setCells g (i * 3) (rt3 r)) 0 (.slice (some ⟨g, 0, none⟩) (n + 1) cap) (L.take i ++ r :: L.drop i) := by
    have hll : (L.take i ++ r :: L.drop i).length = n + 1 := by rw [List.length_append, List.length_cons, List.length_take, List.length_drop]; omega
    unfold SlR
    rw [hll]
    refine row_own hr2 (Nat.zero_le _) (by omega) hcm (by rw [List.length_map, rtI_len, hll]) (fun k hk => ?_)
    have e3 : rtI (L.take i ++ r :: L.drop i) = (rtI L).take (i * 3) ++ ([r.p.len, r.p.bits, r.hop] ++ (rtI L).drop (i * 3)) := by
      rw [rtI_app, rtI_take, rtI_drop]; rfl
    rw [e3, List.map_append, List.map_append]
    have l1 : (((rtI L).take (i * 3)).map (Value.int .i64)).length = i * 3 := by rw [List.length_map, List.length_take, hlen]; omega
    have l2 : (rt3 r).length = 3 := rfl
    by_cases k1 : k < i * 3
    · rw [List.getElem?_append_left (by omega), if_neg (by omega), if_neg (by omega), List.map_take, List.getElem?_take, if_pos k1, hx k (by omega)]
    · rw [List.getElem?_append_right (by omega), l1]
      by_cases k2 : k < i * 3 + 3
      · rw [if_pos (by omega)]
        have : k - i * 3 = 0 ∨ k - i * 3 = 1 ∨ k - i * 3 = 2 := by omega
        rcases this with e | e | e <;> rw [e] <;> rfl
      · rw [if_neg (by omega), if_pos (by omega), List.getElem?_append_right (by simp only [List.length_map, List.length_cons, List.length_nil]; omega)]
        have e4 : k - i * 3 - ([r.p.len, r.p.bits, r.hop].map (Value.int .i64)).length = k - (i + 1) * 3 := by simp only [List.length_map, List.length_cons, List.length_nil]; omega
        rw [e4, List.map_drop, ← hnews, List.getD_eq_getElem?_getD, hget _ (by omega)]
        rfl
  have hob : Fr (fun k => (Value.slice (some ⟨g, 0, none⟩) n cap).ownBlock = some k) w (W1.setCells g (i * 3) (rt3 r)) := hf2.mono (fun k _ e => by unfold OneB at e; subst e; rfl)
  have HFIN := Lib.hid hfin; clear hfin; have HOB := Lib.hid hob; clear hob; have HW1 := Lib.hid hW1; clear hW1
  clear hr2 hf2 hv1 hf1 hr1 hrd hget hnl hnews h1c hx hrow hv hlen hsz hsof hn hgl
  have hz2 : ¬ ((i : Int) = (n : Int)) := by omega
  have hb1 : (0 : Int) ≤ (i : Int) + 1 := by omega
  have hin : i ≤ n := by omega
  have hb2 : ¬ (cap = i + 1) := by omega
  have hb4 : ¬ (cap = i) := by omega
  have hb5 : (i : Int) ≤ (n : Int) + 1 := by omega
  have hb6 : (i : Int) + 1 ≤ (n : Int) + 1 := by omega
  have hb7 : ¬ ((cap : Int) < (n : Int) + 1) := by omega
  have hb8 : (n : Int) + 1 ≤ (cap : Int) := by omega
  have hw1 := IntWalk.i64_in ((i : Int) + 1) (by omega)
  have htn : ((i : Int) + 1).toNat = i + 1 := by omega
  clear hnc hcm
  go_enter Tryz.func114, Tryz.ntmps114
  go_wp2_with (simp only [hov])
  go_region_law (refine step_copy_run rfl _ _ 68 68 rfl _ _ (by simp [Act.eval, Act.put]) (by simp [Act.eval, Act.put]) (hcp1 _ _ _) ?_)
  go_wp2_with (at_builtin; refine wpList_copy_run _ rfl _ _ 68 68 rfl _ _ rfl rfl (hcp2 _ (fun _ => rfl) (fun _ => rfl) _ _) ?_)
  go_ret
  exact ⟨_, rfl, HFIN.out, HOB.out, fun g' e => by cases e; exact .inl rfl⟩
end Go.Proofs.YtffoilacaffdgaaGreatDoor
/- Walks: slices.Insert of one route ahead of another one, where there is no room: a new block. -/
namespace Go.Proofs.YtffoilacaffdgaaGreatDoor
open Go.RowKit Go.Deep

def z3 : Value := .agg #[.int .i64 0, .int .i64 0, .int .i64 0]
theorem z3_cells (k : Nat) : (Builtin.zeroCells z3.cells k).size = k * 3 := by simp [Builtin.zeroCells, z3, Value.cells]
set_option maxRecDepth 100000 in
set_option maxHeartbeats 4000000 in
theorem Insert_grow (g cap : Nat) (L : List Tb.Rt) (i : Nat) (r : Tb.Rt) (vb : Nat) (w : World) (hl : L.length ≤ 1000) (hi : i < L.length) (hroom : cap ≤ L.length) (h : SlR w 0 (.slice (some ⟨g, 0, none⟩) L.length cap) L)
    (hv : w.rowIs vb 134 3 (rtV r)) :
    Calls Tryz.prog 114 #[.slice (some ⟨g, 0, none⟩) L.length cap, .int .i64 i, .slice (some ⟨vb, 0, none⟩) 1 1] w (InsPost (.slice (some ⟨g, 0, none⟩) L.length cap) L i r w) := by
  obtain ⟨hnc, hcm, _, f, hrow, hx⟩ := own_row h
  have hlen := rtI_len L
  have hcm' : cap ≤ 9223372036854775807 := by unfold maxLen at hcm; omega
  have hgl := World.rowIs.lt hrow
  have hvl := World.rowIs.lt hv
  clear h
  generalize hn : L.length = n at *
  have hcn : cap = n := by omega
  subst hcn
  obtain ⟨xs, hxs⟩ : ∃ xs, xs = (rtI L).map (Value.int .i64) := ⟨_, rfl⟩
  have hxl : xs.length = cap * 3 := by rw [hxs, List.length_map, hlen]
  rw [← hxs] at hx
  have h1x : ∀ u ∈ xs, u.oneCell' = true := by rw [hxs]; exact ints_one _
  have hsrc : ∀ j v, xs[j]? = some v → w.cell? ⟨g, j, none⟩ = some v := fun j v hj => by
    have hjl : j < cap * 3 := by
      have := (List.getElem?_eq_some_iff.1 hj).1
      omega
    rw [hx j hjl] at hj
    cases hj
    exact World.rowIs.cell hrow hjl
  have hsz : (Tryz.prog.info? 134).map (·.size) = some 3 := by
    obtain ⟨i0, hi0, hz0, hz1, hz2⟩ := info_parts Tryz.info134
    rw [hi0]; simp [hz1]
  obtain ⟨i0, hi0, hz0, hzs, hzb⟩ := info_parts Tryz.info134
  have hold : (Builtin.firstCells i0.size i (.slice (some ⟨g, 0, none⟩) i cap)).run Tryz.prog w.drew = .ok (xs.take (i * 3)).toArray w.drew := by
    rw [hzs]
    exact run_firstCells_some w.drew 3 i ⟨g, 0, none⟩ i cap (xs.take (i * 3)) (by rw [List.length_take]; omega) (fun j v hj => by
      rw [add_base]
      rw [List.getElem?_take] at hj
      split at hj
      · exact hsrc j v hj
      · cases hj)
  have hkk : (cap : Int) + 1 - (i : Int) = ((cap + 1 - i : Nat) : Int) := by omega
  have hik : i + (cap + 1 - i) = cap + 1 := by omega
  obtain ⟨G, hG⟩ : ∃ G, G = grownCap w (cap + 1) cap 134 := ⟨_, rfl⟩
  have hGn : cap + 1 ≤ G := by rw [hG]; exact grownCap_ge w _ _ _
  have hG63 : G ≤ maxLen := by
    have := grownCap_le_maxLen w (cap + 1) cap 134 (by unfold maxLen; omega)
    rw [← hG] at this
    exact this
  obtain ⟨ROW, hROW⟩ : ∃ ROW : Array Value, ROW = (xs.take (i * 3)).toArray ++ Builtin.zeroCells z3.cells (cap + 1 - i) ++ Builtin.zeroCells z3.cells (G - (cap + 1)) := ⟨_, rfl⟩
  have hrz : ∀ ty, (Builtin.append_ #[68, 3] ty #[.slice (some ⟨g, 0, none⟩) i cap, .int .i64 ((cap : Int) + 1 - (i : Int))]).run Tryz.prog w =
      .ok (.slice (some ⟨w.heap.size, 0, none⟩) (cap + 1) G) (w.drew.alloc (.cells ROW 134)) := fun ty => by
    have h := Lib.run_append_grow_zeros w 68 3 ty 134 i0 _ .i64 .i64 Tryz.underlying68 Tryz.underlying3 hi0 hz0 (some ⟨g, 0, none⟩) i cap (xs.take (i * 3)) hold (cap + 1 - i) (by omega) (by omega) (by omega) (by omega) (by rw [hzb]; omega) (by rw [hzb, hik]; exact growslice_fits (by omega) (by omega))
    rw [hik, ← hG] at h
    rw [hkk, hROW]
    exact h
  have hRl : ROW.size = G * 3 := by
    rw [hROW]
    simp only [Array.size_append, List.size_toArray, z3_cells, List.length_take]
    omega
  obtain ⟨W1, hW1⟩ : ∃ W1, W1 = w.drew.alloc (.cells ROW 134) := ⟨_, rfl⟩
  have hr1 : W1.rowIs w.heap.size 134 (G * 3) (fun k => ROW.getD k (.int .i64 0)) := by
    rw [hW1, ← hRl]
    exact World.rowIs_alloc w.drew ROW 134 _ (fun k hk => by simp [Array.getD, hk])
  rw [← hW1] at hrz
  have hf1 : Fr NoB w W1 := by rw [hW1]; exact ((Fr.refl _ _).drew).alloc _
  have hv1 : W1.rowIs vb 134 3 (rtV r) := hf1.row hv (fun h => h)
  have hO : ∀ j v, xs[j]? = some v → W1.cell? ⟨g, j, none⟩ = some v := fun j v hj => cell_fr' hf1 (hsrc j v hj) (fun h => h)
  have hcpA : ∀ (W : World), (∀ x, W.cell? x = W1.cell? x) → (∀ x, W.frozen? x = W1.frozen? x) → ∀ ty dc, (Builtin.copy_ #[68, 68] ty #[.slice (some ⟨w.heap.size, i * 3, none⟩) (cap + 1 - i) dc, .slice (some ⟨vb, 0, none⟩) 1 1]).run Tryz.prog W = .ok (goInt (1 : Nat)) (W.setCells w.heap.size (i * 3) (rt3 r)) := fun W hWc hWf ty dc =>
    run_copy_rows W _ _ ty 134 w.heap.size (i * 3) (cap + 1 - i) dc ⟨vb, 0, none⟩ 1 1 (rt3 r) 3 1 Tryz.underlying68 hsz (by simp only [Nat.min_def]; split <;> omega) rfl
      (fun j v hj => by rw [hWc]; exact rt3_at hv1 j v hj)
      (fun j hj => by rw [hWc, World.rowIs.cell hr1 (i := i * 3 + j) (by simp [rt3] at hj; omega)]; rfl) (fun j hj => by rw [hWf]; exact World.rowIs.frozen hr1 _) (rt3_one r)
  obtain ⟨W2, hW2⟩ : ∃ W2, W2 = W1.setCells w.heap.size (i * 3) (rt3 r) := ⟨_, rfl⟩
  have hr2 := rowIs_setCells (rt3 r) (i * 3) _ _ hr1
  have hf2 : Fr (OneB w.heap.size) W1 W2 := by rw [hW2]; exact Fr.setCells (S := OneB w.heap.size) (show OneB w.heap.size w.heap.size from rfl) _ _ (Fr.refl _ _)
  rw [← hW2] at hr2
  have hO2 : ∀ j v, xs[j]? = some v → W2.cell? ⟨g, j, none⟩ = some v := fun j v hj => cell_fr' hf2 (hO j v hj) (fun e : g = w.heap.size => by omega)
  obtain ⟨news, hnews⟩ : ∃ news, news = xs.drop (i * 3) := ⟨_, rfl⟩
  have hnl : news.length = (cap - i) * 3 := by rw [hnews, List.length_drop, hxl]; omega
  have h1n : ∀ u ∈ news, u.oneCell' = true := fun u hu => h1x u (by rw [hnews] at hu; exact List.mem_of_mem_drop hu)
  have hcpB : ∀ (W : World), (∀ x, W.cell? x = W2.cell? x) → (∀ x, W.frozen? x = W2.frozen? x) → ∀ ty dc sc, (Builtin.copy_ #[68, 68] ty #[.slice (some ⟨w.heap.size, (i + 1) * 3, none⟩) (cap - i) dc, .slice (some ⟨g, i * 3, none⟩) (cap - i) sc]).run Tryz.prog W = .ok (goInt (cap - i : Nat)) (W.setCells w.heap.size ((i + 1) * 3) news) := fun W hWc hWf ty dc sc =>
    run_copy_rows W _ _ ty 134 w.heap.size ((i + 1) * 3) (cap - i) dc ⟨g, i * 3, none⟩ (cap - i) sc news 3 (cap - i) Tryz.underlying68 hsz (by simp only [Nat.min_def]; split <;> omega) hnl
      (fun j v hj => by
        rw [Addr.add_lit, hWc]
        exact hO2 _ v (by rwa [hnews, List.getElem?_drop] at hj))
      (fun j hj => by rw [hWc, World.rowIs.cell hr2 (i := (i + 1) * 3 + j) (by omega)]; rfl) (fun j hj => by rw [hWf]; exact World.rowIs.frozen hr2 _) h1n
  have hfin : ∀ W : World, W.rowIs w.heap.size 134 (G * 3) (fun k => if i * 3 ≤ k ∧ k < i * 3 + (rt3 r).length then (rt3 r).getD (k - i * 3) (ROW.getD k (.int .i64 0)) else ROW.getD k (.int .i64 0)) → SlR (W.setCells w.heap.size ((i + 1) * 3) news) 0 (.slice (some ⟨w.heap.size, 0, none⟩) (cap + 1) G) (L.take i ++ r :: L.drop i) := by
    intro W hW
    have hr3 := rowIs_setCells news ((i + 1) * 3) _ _ hW
    have hll : (L.take i ++ r :: L.drop i).length = cap + 1 := by rw [List.length_append, List.length_cons, List.length_take, List.length_drop]; omega
    unfold SlR
    rw [hll]
    refine row_own hr3 (Nat.zero_le _) (by omega) hG63 (by rw [List.length_map, rtI_len, hll]) (fun k hk => ?_)
    have e3 : (rtI (L.take i ++ r :: L.drop i)).map (Value.int .i64) = xs.take (i * 3) ++ (rt3 r ++ xs.drop (i * 3)) := by
      rw [rtI_app, ← rtI_take, hxs, ← List.map_take, ← List.map_drop, rtI_drop]
      simp [rtI, rt3]
    rw [e3, ← hnews]
    have l1 : (xs.take (i * 3)).length = i * 3 := by rw [List.length_take, hxl]; omega
    have l2 : (rt3 r).length = 3 := rfl
    by_cases k1 : k < i * 3
    · rw [List.getElem?_append_left (by omega), if_neg (by omega), if_neg (by omega), hROW]
      have : ((xs.take (i * 3)).toArray ++ Builtin.zeroCells z3.cells (cap + 1 - i) ++ Builtin.zeroCells z3.cells (G - (cap + 1)))[k]? = (xs.take (i * 3))[k]? := by
        rw [Array.getElem?_append_left (by simp only [Array.size_append, List.size_toArray]; omega), Array.getElem?_append_left (by simp only [List.size_toArray]; omega), List.getElem?_toArray]
      rw [Array.getD_eq_getD_getElem?, this]
      have : k < (xs.take (i * 3)).length := by omega
      rw [List.getElem?_eq_getElem this]
      rfl
    · rw [List.getElem?_append_right (by omega), l1]
      by_cases k2 : k < i * 3 + 3
      · rw [List.getElem?_append_left (by omega), if_neg (by omega), if_pos (by omega)]
        have : k - i * 3 = 0 ∨ k - i * 3 = 1 ∨ k - i * 3 = 2 := by omega
        rcases this with e | e | e <;> rw [e] <;> rfl
      · rw [List.getElem?_append_right (by omega), if_pos (by omega), l2, show k - i * 3 - 3 = k - (i + 1) * 3 from by omega, List.getD_eq_getElem?_getD, List.getElem?_eq_getElem (by omega : k - (i + 1) * 3 < news.length)]
        rfl
  have hob : ∀ W : World, Fr (OneB w.heap.size) W2 W → Fr (fun k => (Value.slice (some ⟨g, 0, none⟩) cap cap).ownBlock = some k) w W := fun W hW =>
    (hf1.trans' (hf2.trans hW) (fun k hk e => by unfold OneB at e; subst e; omega)).mono (fun _ _ h => h.elim)
  have hG63' : G ≤ 9223372036854775807 := by unfold maxLen at hG63; omega
  have HFIN := Lib.hid hfin; clear hfin; have HOB := Lib.hid hob; clear hob; have HR2 := Lib.hid hr2; clear hr2; have HF2 := Lib.hid hf2; clear hf2
  have HSL := Lib.hid hgl
  clear hn hkk hik hold hROW hG hRl hO2 hO h1n hnl hnews hv1 hf1 hr1 hsrc h1x hxl hx hxs hrow hv hi0 hz0 hzs hzb hsz hlen hcm hnc hroom hW1 hG63
  subst hW2
  have hz2 : ¬ ((i : Int) = (cap : Int)) := by omega
  have hin : i ≤ cap := by omega
  have hb1 : (0 : Int) ≤ (i : Int) + 1 := by omega
  have hb2 : ¬ (G = i + 1) := by omega
  have hb4 : ¬ (G = i) := by omega
  have hb5 : (i : Int) ≤ (cap : Int) + 1 := by omega
  have hb6 : (i : Int) + 1 ≤ (cap : Int) + 1 := by omega
  have hb7 : (cap : Int) < (cap : Int) + 1 := by omega
  have hb9 : ¬ (cap = i) := by omega
  have hb10 : (i : Int) ≤ (cap : Int) := by omega
  have hw1 := IntWalk.i64_in ((i : Int) + 1) (by omega)
  have htn : ((i : Int) + 1).toNat = i + 1 := by omega
  go_enter Tryz.func114, Tryz.ntmps114
  go_wp2_with (first
    | (at_builtin; refine Lib.wpList_append_run _ rfl _ _ _ _ rfl _ _ rfl rfl _ _ (hrz _) ?_)
    | (at_builtin; refine wpList_copy_run _ rfl _ _ 68 68 rfl _ _ rfl rfl (hcpA _ (fun _ => rfl) (fun _ => rfl) _ _) ?_))
  have hcpB' := hcpB (W1.setCells w.heap.size (i * 3) (rt3 r)).drew (fun _ => rfl) (fun _ => rfl)
  go_region_law (refine step_copy_run rfl _ _ 68 68 rfl (.slice (some ⟨w.heap.size, (i + 1) * 3, none⟩) (cap - i) (G - (i + 1))) (.slice (some ⟨g, i * 3, none⟩) (cap - i) (cap - i)) (by simp [Act.eval, Act.put]) (by simp [Act.eval, Act.put]) (hcpB' 3 (G - (i + 1)) (cap - i)) ?_)
  go_wp2
  go_ret
  exact ⟨_, rfl, HFIN.out _ (World.rowIs.drew HR2.out), HOB.out _ (Fr.setCells (S := OneB w.heap.size) (show OneB w.heap.size w.heap.size from rfl) _ _ (Fr.refl _ _).drew), fun g' e => by cases e; exact .inr (Nat.le_refl _)⟩

theorem Insert_any (v : Value) (L : List Tb.Rt) (i : Nat) (r : Tb.Rt) (vb : Nat) (w : World) (hl : L.length ≤ 1000) (hi : i ≤ L.length) (h : SlR w 0 v L) (hv : w.rowIs vb 134 3 (rtV r)) (hvg : v.ownBlock ≠ some vb) :
    Calls Tryz.prog 114 #[v, .int .i64 i, .slice (some ⟨vb, 0, none⟩) 1 1] w (InsPost v L i r w) := by
  by_cases e : i = L.length
  · subst e
    exact Insert_end v L r vb w hl h hv
  · rcases h.2 with ⟨_, h0⟩ | ⟨g, cap, cur, rfl, h2⟩
    · omega
    · have hne : vb ≠ g := fun e => hvg (by rw [e]; rfl)
      by_cases hr : L.length < cap
      · exact Insert_shift g cap L i r vb w hl (by omega) hr h hv hne
      · exact Insert_grow g cap L i r vb w hl (by omega) (by omega) h hv
end Go.Proofs.YtffoilacaffdgaaGreatDoor
/- Walks: slices.Delete of one route. -/
namespace Go.Proofs.YtffoilacaffdgaaGreatDoor
open Go.RowKit Go.Deep

theorem run_clear_routes (w : World) (ty : TypeId) (b o c : Nat) (hc : ∀ j, j < 3 → (w.cell? ⟨b, o + j, none⟩).isSome = true) (hf : ∀ j, j < 3 → w.frozen? ⟨b, o + j, none⟩ = false) :
    (Builtin.clear_ #[68] ty #[.slice (some ⟨b, o, none⟩) 1 c]).run Tryz.prog w = .ok (.tuple #[]) (w.setCells b o [.int .i64 0, .int .i64 0, .int .i64 0]) := by
  have hv : ∀ w, (zeroValue 134).run Tryz.prog w = .ok (.agg #[.int .i64 0, .int .i64 0, .int .i64 0]) w := by intro w; kernel_rfl
  have hst := run_storeCells_cells (P := Tryz.prog) b o [.int .i64 0, .int .i64 0, .int .i64 0] 0 w (by simpa using hc) (by simpa using hf) (by intro v hv'; simp at hv'; subst hv'; rfl)
  simp only [Nat.add_zero] at hst
  have hzc : (Builtin.zeroCells (Value.agg #[.int .i64 0, .int .i64 0, .int .i64 0]).cells 1).toList = [.int .i64 0, .int .i64 0, .int .i64 0] := by kernel_rfl
  have hst' : Sem.run Tryz.prog (storeCells ⟨b, o, none⟩ [.int .i64 0, .int .i64 0, .int .i64 0]) w = .ok () (w.setCells b o [.int .i64 0, .int .i64 0, .int .i64 0]) := hst
  simp [Builtin.clear_, run_underlying Tryz.underlying68, hv, hzc]
  rw [hst']
  rfl
def SlRN (w : World) (base : Nat) (v : Value) (n : Nat) (xs : List Int) : Prop := w.ownsRow base 134 3 v n (xs.map (Value.int .i64))
def DelRPost (g cap n : Nat) (xs : List Int) (i : Nat) (w : World) (e : Ending) (w' : World) : Prop :=
  e = .returned (.slice (some ⟨g, 0, none⟩) (n - 1) cap) ∧ SlRN w' 0 (.slice (some ⟨g, 0, none⟩) (n - 1) cap) (n - 1) (xs.take (i * 3) ++ xs.drop ((i + 1) * 3)) ∧ Fr (OneB g) w w'
set_option maxRecDepth 100000 in
set_option maxHeartbeats 4000000 in
theorem DeleteR_any (g cap n i : Nat) (xs : List Int) (w : World) (hi : i < n) (hn : n ≤ 1000) (h : SlRN w 0 (.slice (some ⟨g, 0, none⟩) n cap) n xs) :
    Calls Tryz.prog 115 #[.slice (some ⟨g, 0, none⟩) n cap, .int .i64 i, .int .i64 (i + 1 : Nat)] w (DelRPost g cap n xs i w) := by
  obtain ⟨hnc, hcm, _, f, hrow, hx⟩ := own_row h
  have hlen := h.1
  have hcm' : cap ≤ 9223372036854775807 := by unfold maxLen at hcm; omega
  clear h hcm
  obtain ⟨m, hm⟩ : ∃ m, m = n - (i + 1) := ⟨_, rfl⟩
  obtain ⟨news, hnews⟩ : ∃ news, news = (xs.map (Value.int .i64)).drop ((i + 1) * 3) := ⟨_, rfl⟩
  have hnl : news.length = m * 3 := by rw [hnews, List.length_drop, hlen]; omega
  have hget : ∀ t, t < m * 3 → news[t]? = some (f ((i + 1) * 3 + t)) := by
    intro t ht
    rw [hnews, List.getElem?_drop, hx _ (by omega)]
  have h1c : ∀ u ∈ news, u.oneCell' = true := by
    intro u hu
    rw [hnews] at hu
    obtain ⟨y, _, rfl⟩ := List.mem_map.1 (List.mem_of_mem_drop hu)
    rfl
  obtain ⟨A, hA, hsrc⟩ : ∃ A : Addr, (if cap = i + 1 then some (⟨g, 0, none⟩ : Addr) else some ⟨g, (i + 1) * 3, none⟩) = some A ∧ Hid (∀ t u, news[t]? = some u → w.drew.cell? (A.add t) = some u) := by
    by_cases hci : cap = i + 1
    · refine ⟨⟨g, 0, none⟩, by simp [hci], fun t u hu => ?_⟩
      have h0 : news.length = 0 := by rw [hnl]; omega
      rw [List.length_eq_zero_iff.1 h0] at hu
      simp at hu
    · refine ⟨⟨g, (i + 1) * 3, none⟩, by simp [hci], fun t u hu => ?_⟩
      have ht : t < m * 3 := by
        have := (List.getElem?_eq_some_iff.1 hu).1
        rwa [hnl] at this
      rw [hget t ht] at hu
      have := World.rowIs.cell (World.rowIs.drew hrow) (i := (i + 1) * 3 + t) (by omega)
      rw [Option.some.inj hu] at this
      have ea : (⟨g, (i + 1) * 3, none⟩ : Addr).add t = ⟨g, (i + 1) * 3 + t, none⟩ := by unfold Addr.add; split <;> simp_all
      rw [ea]; exact this
  have hspare : Hid (∀ j, j < news.length → (w.drew.cell? ⟨g, 0 + i * 3 + j, none⟩).isSome = true ∧ w.drew.frozen? ⟨g, 0 + i * 3 + j, none⟩ = false) := by
    intro j hj
    rw [hnl] at hj
    have := World.rowIs.cell (World.rowIs.drew hrow) (i := 0 + i * 3 + j) (by omega)
    exact ⟨by rw [this]; rfl, World.rowIs.frozen (World.rowIs.drew hrow) _⟩
  obtain ⟨W1, hW1⟩ : ∃ W1, W1 = w.drew.setCells g (0 + i * 3) news := ⟨_, rfl⟩
  have hrow1 := rowIs_setCells news (0 + i * 3) _ _ (World.rowIs.drew hrow)
  rw [← hW1] at hrow1
  have hf1 : Fr (OneB g) w W1 := by rw [hW1]; exact Fr.setCells (S := OneB g) (show OneB g g from rfl) _ _ (Fr.refl _ _).drew
  have hcl : ∀ ty, (Builtin.clear_ #[68] ty #[.slice (some ⟨g, (i + m) * 3, none⟩) (n - (i + m)) (cap - (i + m))]).run Tryz.prog W1 = .ok (.tuple #[]) (W1.setCells g ((i + m) * 3) [.int .i64 0, .int .i64 0, .int .i64 0]) := by
    intro ty
    rw [show n - (i + m) = 1 from by omega]
    exact run_clear_routes W1 ty g _ _ (fun j hj => by rw [World.rowIs.cell hrow1 (i := (i + m) * 3 + j) (by omega)]; rfl) (fun j hj => World.rowIs.frozen hrow1 _)
  have hrow2 := rowIs_setCells [.int .i64 0, .int .i64 0, .int .i64 0] ((i + m) * 3) _ _ hrow1
  have hf2 : Fr (OneB g) w (W1.setCells g ((i + m) * 3) [.int .i64 0, .int .i64 0, .int .i64 0]) := Fr.setCells (S := OneB g) (show OneB g g from rfl) _ _ hf1
  have hfin : SlRN (W1.setCells g ((i + m) * 3) [.int .i64 0, .int .i64 0, .int .i64 0]) 0 (.slice (some ⟨g, 0, none⟩) (n - 1) cap) (n - 1) (xs.take (i * 3) ++ xs.drop ((i + 1) * 3)) := by
    have hxl : xs.length = n * 3 := by simpa using hlen
    refine row_own hrow2 (Nat.zero_le _) (by omega) (by unfold maxLen; omega) (by rw [List.length_map, List.length_append, List.length_take, List.length_drop]; omega) (fun k hk => ?_)
    rw [if_neg (by omega)]
    by_cases hki : k < i * 3
    · rw [if_neg (by omega), List.map_append, List.getElem?_append_left (by simp; omega), List.map_take, List.getElem?_take, if_pos hki, hx k (by omega)]
    · rw [if_pos (by omega), List.map_append, List.getElem?_append_right (by simp; omega), List.map_drop, ← hnews, List.length_map, List.length_take, Nat.min_eq_left (by omega), hget _ (by omega)]
      have := hget (k - (0 + i * 3)) (by omega)
      rw [List.getD_eq_getElem?_getD, this, show (i + 1) * 3 + (k - i * 3) = (i + 1) * 3 + (k - (0 + i * 3)) from by omega]
      rfl
  have hW : Hid (W1 = w.drew.setCells g (0 + i * 3) news) := hW1
  have hic : i ≤ cap := by omega
  have hjc : i + 1 ≤ cap := by omega
  have him : i + m = n - 1 := by omega
  obtain ⟨i0, hi0, hz0, hz1, hz2⟩ := info_parts Tryz.info134
  have HI0 := Lib.hid hi0; clear hi0
  have HNL := Lib.hid hnl; have HSP := hspare
  have H1C := Lib.hid h1c; clear h1c; have HFIN := Lib.hid hfin; clear hfin; have HF2 := Lib.hid hf2; clear hf2; have HIM := Lib.hid him; clear him
  clear hW1 hrow1 hrow2 hget hnews hnl hx hrow hlen hspare hf1
  have hj1 : (i : Int) + 1 ≤ (n : Int) := by omega
  have hj0 : (0 : Int) ≤ (i : Int) + 1 := by omega
  subst hm
  go_enter Tryz.func115, Tryz.ntmps115
  go_wp2_with fail
  go_region_law (refine step_append_room rfl (.tmp 22) (.tmp 25) 68 rfl 134 i0 3 Tryz.underlying68 HI0.out hz1 g 0 i cap (by simp [Act.eval, Act.put]) A (n - (i + 1)) (cap - (i + 1)) news (by simp [Act.eval, Act.put]) HNL.out hsrc.out H1C.out (by omega) HSP.out ?_; rw [← hW.out])
  go_wp2
  go_ret
  exact ⟨by rw [HIM.out]; rfl, HFIN.out, HF2.out⟩

def DelTPost (v : Value) (L : List Tb.Rt) (i : Nat) (w : World) (e : Ending) (w' : World) : Prop :=
  ∃ v', e = .returned v' ∧ SlR w' 0 v' (L.take i ++ L.drop (i + 1)) ∧ Fr (fun k => v.ownBlock = some k) w w' ∧ v'.ownBlock = v.ownBlock
theorem DeleteT (v : Value) (L : List Tb.Rt) (i : Nat) (w : World) (hl : L.length ≤ 1000) (hi : i < L.length) (h : SlR w 0 v L) :
    Calls Tryz.prog 115 #[v, .int .i64 i, .int .i64 (i + 1 : Nat)] w (DelTPost v L i w) := by
  rcases h.2 with ⟨_, h0⟩ | ⟨g, cap, cur, rfl, h2⟩
  · omega
  · refine (DeleteR_any g cap L.length i (rtI L) w hi hl h).mono ?_
    rintro e w' ⟨rfl, hs, hf⟩
    refine ⟨_, rfl, ?_, hf.mono (fun k _ e => by unfold OneB at e; subst e; rfl), rfl⟩
    unfold SlR
    have hll : (L.take i ++ L.drop (i + 1)).length = L.length - 1 := by rw [List.length_append, List.length_take, List.length_drop]; omega
    rw [hll, rtI_app, ← rtI_take, ← rtI_drop]
    exact hs
end Go.Proofs.YtffoilacaffdgaaGreatDoor
/- Walks: SetOf of the document's own answer, where it sets. -/
namespace Go.Proofs.YtffoilacaffdgaaGreatDoor
open Go.RowKit Go.Deep

theorem cell_alloc {w : World} {b o : Nat} {v : Value} (h : w.cell? ⟨b, o, none⟩ = some v) (ob : Obj) : (w.alloc ob).cell? ⟨b, o, none⟩ = some v := cell_fr' ((Fr.refl NoB w).alloc ob) h (fun h => h)
theorem news3 (w : World) (r : Tb.Rt) : ∀ (j : Nat) (u : Value), (rt3 r)[j]? = some u → (w.alloc (.cells #[.int .i64 r.p.len, .int .i64 r.p.bits, .int .i64 r.hop] 134)).cell? ((⟨w.heap.size, 0, none⟩ : Addr).add j) = some u := by
  intro j u hj
  rw [add_base]
  match j, hj with
  | 0, hj => cases hj; simp
  | 1, hj => cases hj; simp
  | 2, hj => cases hj; simp
theorem SlR.app {w : World} {base : Nat} {v : Value} {T : List Tb.Rt} {r : Tb.Rt} (h : w.ownsRow base 134 3 v (T.length + 1) ((rtI T).map (Value.int .i64) ++ rt3 r)) : SlR w base v (T ++ [r]) := by
  unfold SlR
  rw [List.length_append, rtI_app, List.map_append, rtI_one]
  exact h
theorem SlR.keep {S : Nat → Prop} {w w' : World} {base : Nat} {v : Value} {L : List Tb.Rt} (h : SlR w base v L) (hf : Fr S w w') (hS : ∀ g, v.ownBlock = some g → ¬ S g) : SlR w' base v L := own_keep h hf hS
theorem SlR.base {w : World} {b1 b2 : Nat} {v : Value} {L : List Tb.Rt} (h : SlR w b1 v L) (hb : b2 ≤ b1) : SlR w b2 v L := by
  refine ⟨h.1, ?_⟩
  rcases h.2 with h | ⟨g, cap, cur, h1, h2, h3⟩
  · exact .inl h
  · exact .inr ⟨g, cap, cur, h1, Nat.le_trans hb h2, h3⟩
end Go.Proofs.YtffoilacaffdgaaGreatDoor
/- Walks: (*Table).Set, where it sets nothing. -/
namespace Go.Proofs.YtffoilacaffdgaaGreatDoor
open Go.RowKit Go.Deep

set_option maxRecDepth 100000 in
set_option maxHeartbeats 4000000 in
theorem SetTb_no (t : Nat) (v : Value) (L : List Tb.Rt) (l b hop : Int) (w : World) (hl : L.length ≤ 40) (hw : Tb.Wf L) (h : TAt w t v L) (hc : Tb.setC L ⟨l, b⟩ hop ≠ 0) :
    Calls Tryz.prog 79 #[.pointer (some ⟨t, 0, none⟩), .agg #[.int .i64 l, .int .i64 b], .int .i64 hop] w (IntFr (Tb.setC L ⟨l, b⟩ hop) w) := by
  obtain ⟨a, c, rfl, ha, hs, hcell⟩ := h.shape
  clear h hs
  have HA := Lib.hid ha; clear ha; have HW := Lib.hid hw; clear hw; have HLL := Lib.hid hl; clear hl; have HC := Lib.hid hcell; clear hcell
  by_cases hok : Tb.ok ⟨l, b⟩
  · have hd := decide_eq_true hok
    by_cases h2 : hop = -2
    · subst h2
      by_cases hg : Tb.get L ⟨l, b⟩ = -2
      · have e : Tb.setC L ⟨l, b⟩ (-2) = 6 := by unfold Tb.setC; rw [if_neg (by simp [hok]), if_pos ⟨hg, rfl⟩]
        have hdg := decide_eq_false (show ¬ Tb.get L ⟨l, b⟩ ≠ -2 from fun h => h hg)
        rw [e]
        have HD := Lib.hid hd; clear hd; have HOK := Lib.hid hok; clear hok; have HDG := Lib.hid hdg; clear hdg
        clear e hc hg
        go_enter Tryz.func79, Tryz.ntmps79
        go_upto_region 1 with fail
        refine wp_name fun w1 hw1 => ?_
        have c0 : w1.cell? ⟨w.heap.size, 0, none⟩ = some (.int .i64 l) := by rw [hw1]; simp
        have c1 : w1.cell? ⟨w.heap.size, 1, none⟩ = some (.int .i64 b) := by rw [hw1]; simp
        have hF : Fr NoB w w1 := by rw [hw1]; (repeat (first | exact Fr.refl _ _ | refine Fr.alloc ?_ _ | refine Fr.setNew ?_ (by omega) _ _ | refine Fr.drewN ?_ _ | refine Fr.drew ?_))
        have hc := cell_fr' hF HC.out (fun h => h)
        clear hw1
        have HF0 := Lib.hid hF; clear hF
        go_wp2_with fail
        refine (at_any t a c L l b _ (by have := HLL.out; omega) HW.out (HA.out.keep0 HF0.out) hc).mono ?_
        unfold AtPost
        rw [HDG.out]
        rintro e w2 ⟨rfl, hf⟩
        have c0 := cell_fr' hf c0 (fun h => h)
        have c1 := cell_fr' hf c1 (fun h => h)
        have hc := cell_fr' hf hc (fun h => h)
        have HF1 := Lib.hid (HF0.out.trans hf)
        clear hf HF0
        go_wp2_with fail
        refine (Check_any l b _).mono ?_
        rw [HD.out]
        rintro e w3 ⟨rfl, hf⟩
        have c0 := cell_fr' hf c0 (fun h => h)
        have c1 := cell_fr' hf c1 (fun h => h)
        have hc := cell_fr' hf hc (fun h => h)
        have HF2 := Lib.hid (HF1.out.trans hf)
        clear hf HF1
        go_wp2
        go_ret
        exact ⟨rfl, HF2.out⟩
      · exact absurd (by unfold Tb.setC; rw [if_neg (by simp [hok]), if_neg (fun h => hg h.1), if_neg (fun h => hg h.1)]) hc
    · have hb : (hop == -2) = false := by simpa using h2
      have hb2 : (hop != -2) = true := by simpa using h2
      by_cases hho : Tb.hopOK hop
      · have hd2 := decide_eq_true hho
        by_cases hg : Tb.get L ⟨l, b⟩ = -2
        · by_cases h40 : 40 ≤ L.length
          · have e : Tb.setC L ⟨l, b⟩ hop = 9 := by unfold Tb.setC; rw [if_neg (by simp [hok, hho]), if_neg (fun h => h2 h.2), if_pos ⟨hg, h40⟩]
            have hdg := decide_eq_false (show ¬ Tb.get L ⟨l, b⟩ ≠ -2 from fun h => h hg)
            have hb40 : ((L.length : Int) == 40) = true := by have := HLL.out; simp; omega
            rw [e]
            have HD := Lib.hid hd; clear hd; have HOK := Lib.hid hok; clear hok; have HDG := Lib.hid hdg; clear hdg; have HD2 := Lib.hid hd2; clear hd2; have HHO := Lib.hid hho; clear hho
            clear e hc h2 hg
            go_enter Tryz.func79, Tryz.ntmps79
            go_upto_region 1 with fail
            refine wp_name fun w1 hw1 => ?_
            have c0 : w1.cell? ⟨w.heap.size, 0, none⟩ = some (.int .i64 l) := by rw [hw1]; simp
            have c1 : w1.cell? ⟨w.heap.size, 1, none⟩ = some (.int .i64 b) := by rw [hw1]; simp
            have hF : Fr NoB w w1 := by rw [hw1]; (repeat (first | exact Fr.refl _ _ | refine Fr.alloc ?_ _ | refine Fr.setNew ?_ (by omega) _ _ | refine Fr.drewN ?_ _ | refine Fr.drew ?_))
            have hc := cell_fr' hF HC.out (fun h => h)
            clear hw1
            have HF0 := Lib.hid hF; clear hF
            go_wp2_with fail
            refine (at_any t a c L l b _ (by have := HLL.out; omega) HW.out (HA.out.keep0 HF0.out) hc).mono ?_
            unfold AtPost
            rw [HDG.out]
            rintro e w2 ⟨rfl, hf⟩
            have c0 := cell_fr' hf c0 (fun h => h)
            have c1 := cell_fr' hf c1 (fun h => h)
            have hc := cell_fr' hf hc (fun h => h)
            have HF1 := Lib.hid (HF0.out.trans hf)
            clear hf HF0
            go_wp2_with fail
            refine (Check_any l b _).mono ?_
            rw [HD.out]
            rintro e w3 ⟨rfl, hf⟩
            have c0 := cell_fr' hf c0 (fun h => h)
            have c1 := cell_fr' hf c1 (fun h => h)
            have hc := cell_fr' hf hc (fun h => h)
            have HF2 := Lib.hid (HF1.out.trans hf)
            clear hf HF1
            go_wp2_with fail
            refine (Hop_any hop _).mono ?_
            rw [HD2.out]
            rintro e w4 ⟨rfl, rfl⟩
            go_wp2
            go_ret
            exact ⟨rfl, HF2.out⟩
          · exact absurd (by unfold Tb.setC; rw [if_neg (by simp [hok, hho]), if_neg (fun h => h2 h.2), if_neg (fun h => h40 h.2)]) hc
        · exact absurd (by unfold Tb.setC; rw [if_neg (by simp [hok, hho]), if_neg (fun h => hg h.1), if_neg (fun h => hg h.1)]) hc
      · have hd2 := decide_eq_false hho
        have e : Tb.setC L ⟨l, b⟩ hop = 1 := by unfold Tb.setC; rw [if_pos (.inr ⟨h2, hho⟩)]
        have hdg : ∃ bb, decide (Tb.get L ⟨l, b⟩ ≠ -2) = bb := ⟨_, rfl⟩
        obtain ⟨bb, hdg⟩ := hdg
        rw [e]
        have HD := Lib.hid hd; clear hd; have HOK := Lib.hid hok; clear hok; have HD2 := Lib.hid hd2; clear hd2; have HHO := Lib.hid hho; clear hho; have HDG := Lib.hid hdg; clear hdg
        clear e hc h2
        go_enter Tryz.func79, Tryz.ntmps79
        go_upto_region 1 with fail
        refine wp_name fun w1 hw1 => ?_
        have c0 : w1.cell? ⟨w.heap.size, 0, none⟩ = some (.int .i64 l) := by rw [hw1]; simp
        have c1 : w1.cell? ⟨w.heap.size, 1, none⟩ = some (.int .i64 b) := by rw [hw1]; simp
        have hF : Fr NoB w w1 := by rw [hw1]; (repeat (first | exact Fr.refl _ _ | refine Fr.alloc ?_ _ | refine Fr.setNew ?_ (by omega) _ _ | refine Fr.drewN ?_ _ | refine Fr.drew ?_))
        have hc := cell_fr' hF HC.out (fun h => h)
        clear hw1
        have HF0 := Lib.hid hF; clear hF
        go_wp2_with fail
        refine (at_any t a c L l b _ (by have := HLL.out; omega) HW.out (HA.out.keep0 HF0.out) hc).mono ?_
        unfold AtPost
        rw [HDG.out]
        rintro e w2 ⟨rfl, hf⟩
        have c0 := cell_fr' hf c0 (fun h => h)
        have c1 := cell_fr' hf c1 (fun h => h)
        have hc := cell_fr' hf hc (fun h => h)
        have HF1 := Lib.hid (HF0.out.trans hf)
        clear hf HF0
        go_wp2_with fail
        refine (Check_any l b _).mono ?_
        rw [HD.out]
        rintro e w3 ⟨rfl, hf⟩
        have c0 := cell_fr' hf c0 (fun h => h)
        have c1 := cell_fr' hf c1 (fun h => h)
        have hc := cell_fr' hf hc (fun h => h)
        have HF2 := Lib.hid (HF1.out.trans hf)
        clear hf HF1
        go_wp2_with fail
        refine (Hop_any hop _).mono ?_
        rw [HD2.out]
        rintro e w4 ⟨rfl, rfl⟩
        go_wp2
        go_ret
        exact ⟨rfl, HF2.out⟩
  · have hd := decide_eq_false hok
    have e : Tb.setC L ⟨l, b⟩ hop = 1 := by unfold Tb.setC; rw [if_pos (.inl hok)]
    have hdg : ∃ bb, decide (Tb.get L ⟨l, b⟩ ≠ -2) = bb := ⟨_, rfl⟩
    obtain ⟨bb, hdg⟩ := hdg
    rw [e]
    have HD := Lib.hid hd; clear hd; have HOK := Lib.hid hok; clear hok; have HDG := Lib.hid hdg; clear hdg
    clear e hc
    go_enter Tryz.func79, Tryz.ntmps79
    go_upto_region 1 with fail
    refine wp_name fun w1 hw1 => ?_
    have c0 : w1.cell? ⟨w.heap.size, 0, none⟩ = some (.int .i64 l) := by rw [hw1]; simp
    have c1 : w1.cell? ⟨w.heap.size, 1, none⟩ = some (.int .i64 b) := by rw [hw1]; simp
    have hF : Fr NoB w w1 := by rw [hw1]; (repeat (first | exact Fr.refl _ _ | refine Fr.alloc ?_ _ | refine Fr.setNew ?_ (by omega) _ _ | refine Fr.drewN ?_ _ | refine Fr.drew ?_))
    have hc := cell_fr' hF HC.out (fun h => h)
    clear hw1
    have HF0 := Lib.hid hF; clear hF
    go_wp2_with fail
    refine (at_any t a c L l b _ (by have := HLL.out; omega) HW.out (HA.out.keep0 HF0.out) hc).mono ?_
    unfold AtPost
    rw [HDG.out]
    rintro e w2 ⟨rfl, hf⟩
    have c0 := cell_fr' hf c0 (fun h => h)
    have c1 := cell_fr' hf c1 (fun h => h)
    have hc := cell_fr' hf hc (fun h => h)
    have HF1 := Lib.hid (HF0.out.trans hf)
    clear hf HF0
    go_wp2_with fail
    refine (Check_any l b _).mono ?_
    rw [HD.out]
    rintro e w3 ⟨rfl, hf⟩
    have c0 := cell_fr' hf c0 (fun h => h)
    have c1 := cell_fr' hf c1 (fun h => h)
    have hc := cell_fr' hf hc (fun h => h)
    have HF2 := Lib.hid (HF1.out.trans hf)
    clear hf HF1
    go_wp2
    go_ret
    exact ⟨rfl, HF2.out⟩
end Go.Proofs.YtffoilacaffdgaaGreatDoor
/- Walks: (*Table).Set, where it changes a hop. -/
namespace Go.Proofs.YtffoilacaffdgaaGreatDoor
open Go.RowKit Go.Deep

def SetOk (t : Nat) (v : Value) (L : List Tb.Rt) (w : World) (e : Ending) (w' : World) : Prop :=
  e = .returned (.int .i64 0) ∧ ∃ v', TAt w' t v' L ∧ Fr (fun k => k = t ∨ v.ownBlock = some k) w w' ∧ ∀ g, v'.ownBlock = some g → v.ownBlock = some g ∨ w.heap.size ≤ g
theorem TAt.store {w w' : World} {t : Nat} {v v' : Value} {L L' : List Tb.Rt} (h : TAt w t v L) (hv : SlR w' 0 v' L') (hf : Fr (fun k => v.ownBlock = some k) w w') (hn : v'.ownBlock ≠ some t) : TAt (w'.setCell ⟨t, 0, none⟩ v') t v' L' := by
  have hr := hf.row h.row (fun e => h.ne e)
  refine ⟨(World.rowIs.set hr 0 v').congr (fun i hi => by rw [if_pos (by omega)]), own_keep hv ((Fr.refl (OneB t) _).set1 _ _) (fun g hg e => hn (by unfold OneB at e; rw [← e]; exact hg)), hn⟩
theorem TAt.own {w : World} {t : Nat} {v : Value} {L : List Tb.Rt} (h : TAt w t v L) (hne : 0 < L.length) : ∃ g c, v = .slice (some ⟨g, 0, none⟩) L.length c ∧ L.length ≤ c ∧ c ≤ maxLen ∧ ∃ f, w.rowIs g 134 (c * 3) f ∧ ∀ k, k < L.length * 3 → ((rtI L).map (Value.int .i64))[k]? = some (f k) := by
  have hs := h.sl
  rcases h.sl.2 with ⟨_, h0⟩ | ⟨g, cap, cur, rfl, _⟩
  · omega
  · obtain ⟨h1, h2, _, f, h3, h4⟩ := own_row hs
    exact ⟨g, cap, rfl, h1, h2, f, h3, h4⟩
theorem SlR.setHop {w : World} {g c : Nat} {L : List Tb.Rt} (h : SlR w 0 (.slice (some ⟨g, 0, none⟩) L.length c) L) {i : Nat} (hi : i < L.length) (hop : Int) :
    SlR (w.setCell ⟨g, i * 3 + 2, none⟩ (.int .i64 hop)) 0 (.slice (some ⟨g, 0, none⟩) L.length c) (L.take i ++ ⟨(Tb.nth L i).p, hop⟩ :: L.drop (i + 1)) := by
  obtain ⟨h1, h2, _, f, hrow, hx⟩ := own_row h
  have hll : (L.take i ++ (⟨(Tb.nth L i).p, hop⟩ : Tb.Rt) :: L.drop (i + 1)).length = L.length := by rw [List.length_append, List.length_cons, List.length_take, List.length_drop]; omega
  unfold SlR
  rw [hll]
  have hr := World.rowIs.set hrow (i * 3 + 2) (.int .i64 hop)
  refine row_own hr (Nat.zero_le _) h1 h2 (by rw [List.length_map, rtI_len, hll]) (fun k hk => ?_)
  have eL : L = L.take i ++ Tb.nth L i :: L.drop (i + 1) := by
    rw [Tb.nth_eq hi, ← List.drop_eq_getElem_cons hi, List.take_append_drop]
  have e1 : rtI L = rtI (L.take i) ++ ([(Tb.nth L i).p.len, (Tb.nth L i).p.bits, (Tb.nth L i).hop] ++ rtI (L.drop (i + 1))) := by
    conv => lhs; rw [eL]
    rw [rtI_app]; rfl
  have e2 : rtI (L.take i ++ (⟨(Tb.nth L i).p, hop⟩ : Tb.Rt) :: L.drop (i + 1)) = rtI (L.take i) ++ ([(Tb.nth L i).p.len, (Tb.nth L i).p.bits, hop] ++ rtI (L.drop (i + 1))) := by rw [rtI_app]; rfl
  have hk' := hx k hk
  rw [e1] at hk'
  rw [e2]
  have l1 : ((rtI (L.take i)).map (Value.int .i64)).length = i * 3 := by rw [List.length_map, rtI_len, List.length_take]; omega
  rw [List.map_append] at hk' ⊢
  by_cases k1 : k < i * 3
  · rw [if_neg (by omega), List.getElem?_append_left (by omega)]
    rw [List.getElem?_append_left (by omega)] at hk'
    exact hk'
  · rw [List.getElem?_append_right (by omega), l1, List.map_append]
    rw [List.getElem?_append_right (by omega), l1, List.map_append] at hk'
    by_cases k2 : k < i * 3 + 3
    · have : k - i * 3 = 0 ∨ k - i * 3 = 1 ∨ k - i * 3 = 2 := by omega
      rcases this with e | e | e
      · rw [if_neg (by omega)]; rw [e] at hk' ⊢; exact hk'
      · rw [if_neg (by omega)]; rw [e] at hk' ⊢; exact hk'
      · rw [if_pos (by omega)]; rw [e]; rfl
    · rw [if_neg (by omega), List.getElem?_append_right (by simp only [List.length_map, List.length_cons, List.length_nil]; omega)]
      rw [List.getElem?_append_right (by simp only [List.length_map, List.length_cons, List.length_nil]; omega)] at hk'
      exact hk'
set_option maxRecDepth 100000 in
set_option maxHeartbeats 4000000 in
theorem Set_put (t : Nat) (v : Value) (L : List Tb.Rt) (l b hop : Int) (w : World) (hl : L.length ≤ 40) (hw : Tb.Wf L) (h : TAt w t v L) (hg : Tb.get L ⟨l, b⟩ ≠ -2) (h2 : hop ≠ -2) (hho : Tb.hopOK hop) :
    Calls Tryz.prog 79 #[.pointer (some ⟨t, 0, none⟩), .agg #[.int .i64 l, .int .i64 b], .int .i64 hop] w (SetOk t v (Tb.setOk L ⟨l, b⟩ hop) w) := by
  obtain ⟨hok, hlo, hn, e1, e2⟩ := Tb.found_nth hw hg
  have hne : 0 < L.length := by omega
  obtain ⟨g, c, rfl, hnc, hcm, f, hrow, hx⟩ := h.own hne
  have ha : Rs w (some ⟨g, 0, none⟩) L := by
    obtain ⟨a', c', e, hr, _⟩ := h.shape
    cases e
    exact hr
  have hcell := h.c0
  have hlt := World.rowIs.lt h.row
  have hgt : g ≠ t := fun e => h.ne (by rw [e]; rfl)
  have HA := Lib.hid ha; clear ha; have HW := Lib.hid hw; clear hw; have HLL := Lib.hid hl; clear hl; have HC := Lib.hid hcell; clear hcell; have H := Lib.hid h; clear h; have HRow := Lib.hid hrow; clear hrow; have HX := Lib.hid hx; clear hx
  have hdg := decide_eq_true hg
  have hd := decide_eq_true hok
  have hd2 := decide_eq_true hho
  have hb : (hop == -2) = false := by simpa using h2
  have hb2 : (hop != -2) = true := by simpa using h2
  have hL : Tb.setOk L ⟨l, b⟩ hop = L.take (Tb.lo L ⟨l, b⟩).length ++ ⟨⟨l, b⟩, hop⟩ :: L.drop ((Tb.lo L ⟨l, b⟩).length + 1) := by
    unfold Tb.setOk Tb.mid
    rw [if_neg h2, ← e1, ← e2, List.append_assoc]
    rfl
  rw [hL]
  clear e1 e2 hL
  generalize hi : (Tb.lo L ⟨l, b⟩).length = i at *
  have HI := Lib.hid hi; clear hi
  have hli : (i : Int) < (L.length : Int) := by omega
  have HD := Lib.hid hd; clear hd; have HOK := Lib.hid hok; clear hok; have HDG := Lib.hid hdg; clear hdg; have HD2 := Lib.hid hd2; clear hd2; have HHO := Lib.hid hho; clear hho; have HN := Lib.hid hn; clear hn
  clear hg h2
  go_enter Tryz.func79, Tryz.ntmps79
  go_upto_region 1 with fail
  refine wp_name fun w1 hw1 => ?_
  have c0 : w1.cell? ⟨w.heap.size, 0, none⟩ = some (.int .i64 l) := by rw [hw1]; simp
  have c1 : w1.cell? ⟨w.heap.size, 1, none⟩ = some (.int .i64 b) := by rw [hw1]; simp
  have hF : Fr NoB w w1 := by rw [hw1]; (repeat (first | exact Fr.refl _ _ | refine Fr.alloc ?_ _ | refine Fr.setNew ?_ (by omega) _ _ | refine Fr.drewN ?_ _ | refine Fr.drew ?_))
  have hc := cell_fr' hF HC.out (fun h => h)
  clear hw1
  have HF0 := Lib.hid hF; clear hF
  go_wp2_with fail
  refine (at_any t (some ⟨g, 0, none⟩) c L l b _ (by have := HLL.out; omega) HW.out (HA.out.keep0 HF0.out) hc).mono ?_
  unfold AtPost
  rw [HDG.out, HI.out]
  rintro e w2 ⟨rfl, hf⟩
  have c0 := cell_fr' hf c0 (fun h => h)
  have c1 := cell_fr' hf c1 (fun h => h)
  have hc := cell_fr' hf hc (fun h => h)
  have HF1 := Lib.hid (HF0.out.trans hf)
  clear hf HF0
  go_wp2_with fail
  refine (Check_any l b _).mono ?_
  rw [HD.out]
  rintro e w3 ⟨rfl, hf⟩
  have c0 := cell_fr' hf c0 (fun h => h)
  have c1 := cell_fr' hf c1 (fun h => h)
  have hc := cell_fr' hf hc (fun h => h)
  have HF2 := Lib.hid (HF1.out.trans hf)
  clear hf HF1
  go_wp2_with fail
  refine (Hop_any hop _).mono ?_
  rw [HD2.out]
  rintro e w4 ⟨rfl, rfl⟩
  have hr := HF2.out.row HRow.out (fun h => h)
  have x2 := World.rowIs.cell hr (i := i * 3 + 2) (by omega)
  have xf := World.rowIs.frozen hr (i * 3 + 2)
  have hsl0 : SlR w3 0 (.slice (some ⟨g, 0, none⟩) L.length c) L := own_keep H.out.sl HF2.out (fun _ _ h => h)
  have hsl := SlR.setHop hsl0 hlo hop
  rw [HN.out] at hsl
  have HR := Lib.hid hr; clear hr; have HSL := Lib.hid hsl; clear hsl
  go_wp2
  go_ret
  refine ⟨rfl, .slice (some ⟨g, 0, none⟩) L.length c, ⟨?_, HSL.out, H.out.ne⟩, ?_, fun g' h' => .inl h'⟩
  · have h1 := HF2.out.row H.out.row (fun h => h)
    exact ((Fr.refl (OneB g) w3).set1 _ _).row h1 (fun e : t = g => hgt e.symm)
  · exact (HF2.out.mono (fun _ _ h => h.elim)).setCell (p := ⟨g, i * 3 + 2, none⟩) (.inl (.inr rfl)) _
end Go.Proofs.YtffoilacaffdgaaGreatDoor
/- Walks: (*Table).Set, where it takes a route away. -/
namespace Go.Proofs.YtffoilacaffdgaaGreatDoor
open Go.RowKit Go.Deep

set_option maxRecDepth 100000 in
set_option maxHeartbeats 4000000 in
theorem Set_del (t : Nat) (v : Value) (L : List Tb.Rt) (l b hop : Int) (w : World) (hl : L.length ≤ 40) (hw : Tb.Wf L) (h : TAt w t v L) (hg : Tb.get L ⟨l, b⟩ ≠ -2) (h2 : hop = -2) :
    Calls Tryz.prog 79 #[.pointer (some ⟨t, 0, none⟩), .agg #[.int .i64 l, .int .i64 b], .int .i64 hop] w (SetOk t v (Tb.setOk L ⟨l, b⟩ hop) w) := by
  subst h2
  obtain ⟨hok, hlo, hn, e1, e2⟩ := Tb.found_nth hw hg
  have hne : 0 < L.length := by omega
  obtain ⟨g, c, rfl, hnc, hcm, f, hrow, hx⟩ := h.own hne
  have ha : Rs w (some ⟨g, 0, none⟩) L := by
    obtain ⟨a', c', e, hr, _⟩ := h.shape
    cases e
    exact hr
  have hcell := h.c0
  have hlt := World.rowIs.lt h.row
  have hgt : g ≠ t := fun e => h.ne (by rw [e]; rfl)
  have HA := Lib.hid ha; clear ha; have HW := Lib.hid hw; clear hw; have HLL := Lib.hid hl; clear hl; have HC := Lib.hid hcell; clear hcell; have H := Lib.hid h; clear h; have HRow := Lib.hid hrow; clear hrow; have HX := Lib.hid hx; clear hx
  have hdg := decide_eq_true hg
  have hd := decide_eq_true hok
  have hL : Tb.setOk L ⟨l, b⟩ (-2) = L.take (Tb.lo L ⟨l, b⟩).length ++ L.drop ((Tb.lo L ⟨l, b⟩).length + 1) := by
    unfold Tb.setOk Tb.mid
    rw [if_pos rfl, List.append_nil, ← e1, ← e2]
  rw [hL]
  clear e1 e2 hL
  generalize hi : (Tb.lo L ⟨l, b⟩).length = i at *
  have HI := Lib.hid hi; clear hi
  have hli : (i : Int) < (L.length : Int) := by omega
  have hl40 : (L.length : Int) ≤ 40 := by have := HLL.out; omega
  have HD := Lib.hid hd; clear hd; have HOK := Lib.hid hok; clear hok; have HDG := Lib.hid hdg; clear hdg; have HN := Lib.hid hn; clear hn
  clear hg
  go_enter Tryz.func79, Tryz.ntmps79
  go_upto_region 1 with fail
  refine wp_name fun w1 hw1 => ?_
  have c0 : w1.cell? ⟨w.heap.size, 0, none⟩ = some (.int .i64 l) := by rw [hw1]; simp
  have c1 : w1.cell? ⟨w.heap.size, 1, none⟩ = some (.int .i64 b) := by rw [hw1]; simp
  have hF : Fr NoB w w1 := by rw [hw1]; (repeat (first | exact Fr.refl _ _ | refine Fr.alloc ?_ _ | refine Fr.setNew ?_ (by omega) _ _ | refine Fr.drewN ?_ _ | refine Fr.drew ?_))
  have hc := cell_fr' hF HC.out (fun h => h)
  clear hw1
  have HF0 := Lib.hid hF; clear hF
  go_wp2_with fail
  refine (at_any t (some ⟨g, 0, none⟩) c L l b _ (by have := HLL.out; omega) HW.out (HA.out.keep0 HF0.out) hc).mono ?_
  unfold AtPost
  rw [HDG.out, HI.out]
  rintro e w2 ⟨rfl, hf⟩
  have c0 := cell_fr' hf c0 (fun h => h)
  have c1 := cell_fr' hf c1 (fun h => h)
  have hc := cell_fr' hf hc (fun h => h)
  have HF1 := Lib.hid (HF0.out.trans hf)
  clear hf HF0
  go_wp2_with fail
  refine (Check_any l b _).mono ?_
  rw [HD.out]
  rintro e w3 ⟨rfl, hf⟩
  have c0 := cell_fr' hf c0 (fun h => h)
  have c1 := cell_fr' hf c1 (fun h => h)
  have hc := cell_fr' hf hc (fun h => h)
  have HF2 := Lib.hid (HF1.out.trans hf)
  clear hf HF1
  go_wp2_with fail
  have hT := H.out.keep0 HF2.out
  have HT := Lib.hid hT; clear hT
  refine (DeleteT (.slice (some ⟨g, 0, none⟩) L.length c) L i w3 (by have := HLL.out; omega) hlo HT.out.sl).mono ?_
  rintro e w4 ⟨v', rfl, hv, hf, hob⟩
  obtain ⟨a', c', rfl, _⟩ := hv.shape
  generalize (L.take i ++ L.drop (i + 1)).length = n' at *
  have hc := cell_fr' hf hc (fun e : (Value.slice (some ⟨g, 0, none⟩) L.length c).ownBlock = some t => H.out.ne e)
  have hfz := World.rowIs.frozen (hf.row HT.out.row (fun e => H.out.ne e)) 0
  have hn' : (Value.slice a' n' c').ownBlock ≠ some t := by rw [hob]; exact H.out.ne
  have hts := HT.out.store hv hf hn'
  have HTS := Lib.hid hts; clear hts; have HF3 := Lib.hid hf; clear hf; have HOB := Lib.hid hob; clear hob
  clear hv hn'
  go_wp2
  go_ret
  exact ⟨rfl, _, HTS.out, (((HF2.out.mono (fun _ _ h => h.elim)).trans (HF3.out.mono (fun _ _ h => .inr h))).setCell (p := ⟨t, 0, none⟩) (.inl (.inl rfl)) _), fun g' h' => .inl (by rw [← HOB.out]; exact h')⟩
end Go.Proofs.YtffoilacaffdgaaGreatDoor
