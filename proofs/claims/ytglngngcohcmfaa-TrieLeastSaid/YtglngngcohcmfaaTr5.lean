/- Walks: LeavesOf of the document's own answer. -/
import Derived.Test.YtglngngcohcmfaaTr4
namespace Go.Proofs.Ytglngngcohcmfaa
open Go.RowKit Go.Deep

def LoSaid (d : Nat) : Prop := ∀ (l b : Int) (hs : List Int) (a : Option Addr) (c : Nat) (w : World), Tb.Fit d ⟨l, b⟩ hs → RdL w a hs → hs.length ≤ c → c ≤ 9223372036854775807 →
    Calls Try.prog 30 #[.agg #[.int .i64 l, .int .i64 b], .slice a hs.length c] w (LvPost (Tb.lv d ⟨l, b⟩ hs) w)
theorem lv_len : ∀ (d : Nat) (p : Tb.Pf) (hs : List Int), Tb.Fit d p hs → 0 < (Tb.lv d p hs).length ∧ (Tb.lv d p hs).length ≤ hs.length
  | 0, _, _, h => ⟨by simp [Tb.lv], by have := h.pos; simp [Tb.lv]; omega⟩
  | d + 1, p, hs, h => by
    unfold Tb.lv
    split
    · exact ⟨by simp, by have := h.pos; simp; omega⟩
    · obtain ⟨a1, a2⟩ := lv_len d _ _ h.low
      obtain ⟨b1, b2⟩ := lv_len d _ _ h.high
      rw [Tb.lowH_len] at a2
      rw [Tb.highH_len] at b2
      rw [List.length_append]
      omega
theorem lv_alike {d : Nat} {p : Tb.Pf} {hs : List Int} (h : Tb.alike hs) : Tb.lv d p hs = [⟨p, hs.getD 0 0⟩] := by
  cases d with
  | zero => rfl
  | succ d => unfold Tb.lv; rw [if_pos h]
set_option maxRecDepth 100000 in
set_option maxHeartbeats 4000000 in
theorem lo_alike (d : Nat) (l b : Int) (hs : List Int) (a : Option Addr) (c : Nat) (w : World) (hfit : Tb.Fit d ⟨l, b⟩ hs) (hr : RdL w a hs) (hal : Tb.alike hs) :
    Calls Try.prog 30 #[.agg #[.int .i64 l, .int .i64 b], .slice a hs.length c] w (LvPost (Tb.lv d ⟨l, b⟩ hs) w) := by
  have hlen : hs.length ≤ 1000 := by have := hfit.2.2; have := (span_in hfit.1).2; omega
  have hpos := hfit.pos
  rw [lv_alike hal]
  have hd := decide_eq_true hal
  obtain ⟨b0, o0, rfl, e0⟩ := hr 0 hpos
  dsimp only at e0
  rw [Nat.add_zero] at e0
  have hcall := fun W (hW : Fr NoB w W) => alike_any (some ⟨b0, o0, none⟩) c hs W hlen (hr.keep0 hW)
  rw [hd] at hcall
  generalize hs.getD 0 0 = h at *
  generalize hs.length = n at *
  have hn0 : (0 : Int) < (n : Int) := by omega
  have HC := Lib.hid hcall; clear hcall
  clear hfit hr hal hd
  go_enter Try.func30, Try.ntmps30
  go_upto_region 1 with fail
  refine wp_name fun w1 hw1 => ?_
  have c0 : w1.cell? ⟨w.heap.size, 0, none⟩ = some (.int .i64 l) := by rw [hw1]; simp
  have c1 : w1.cell? ⟨w.heap.size, 1, none⟩ = some (.int .i64 b) := by rw [hw1]; simp
  have hF : Fr NoB w w1 := by rw [hw1]; (repeat (first | exact Fr.refl _ _ | refine Fr.alloc ?_ _ | refine Fr.setNew ?_ (by omega) _ _ | refine Fr.drewN ?_ _ | refine Fr.drew ?_))
  have e0 := cell_fr' hF e0 (fun h => h)
  clear hw1
  have HF := Lib.hid hF; clear hF
  go_wp2_with fail
  refine (HC.out _ HF.out).mono ?_
  rintro e w2 ⟨rfl, hf⟩
  have c0 := cell_fr' hf c0 (fun h => h)
  have c1 := cell_fr' hf c1 (fun h => h)
  have e0 := cell_fr' hf e0 (fun h => h)
  have HF2 := Lib.hid (HF.out.trans hf)
  clear hf
  go_upto_region 2 with fail
  (refine wp_region_held_drew (S := (fun W => W.cell? ⟨w.heap.size, 0, none⟩ = some (.int .i64 l) ∧ W.cell? ⟨w.heap.size, 1, none⟩ = some (.int .i64 b) ∧ W.cell? ⟨b0, o0, none⟩ = some (.int .i64 h))) (by kernel_rfl) ⟨c0, c1, e0⟩ (fun hHeld => ?_))
  (refine wpAnyH_take (i := 0) (v := ?_) (by simp only [List.getElem?_toArray, List.getElem?_cons_zero]; rfl) (by kernel_rfl) (by kernel_rfl) (by kernel_rfl) (by exact fun _ _ _ h => h) (Or.inl ⟨by rfl, ?_⟩) hHeld ?_; rotate_left; (focus (intro w hSw; (try dsimp only at hSw); go_simp; all_goals with_reducible rfl)); (try simp only [Act.put, List.setIfInBounds_toArray, List.set_cons_zero, List.set_cons_succ])); (refine wpAnyH_take (i := 1) (v := ?_) (by simp only [List.getElem?_toArray, List.getElem?_cons_succ, List.getElem?_cons_zero]; rfl) (by kernel_rfl) (by kernel_rfl) (by kernel_rfl) (by exact fun _ _ _ h => h) (Or.inl ⟨by rfl, ?_⟩) hHeld ?_; rotate_left; (focus (intro w hSw; (try dsimp only at hSw); go_simp; all_goals with_reducible rfl)); (try simp only [Act.put, List.setIfInBounds_toArray, List.set_cons_zero, List.set_cons_succ])); (refine wpAnyH_take (i := 2) (v := ?_) (by simp only [List.getElem?_toArray, List.getElem?_cons_succ, List.getElem?_cons_zero]; rfl) (by kernel_rfl) (by kernel_rfl) (by kernel_rfl) (by exact fun _ _ _ h => h) (Or.inl ⟨by rfl, ?_⟩) hHeld ?_; rotate_left; (focus (intro w hSw; (try dsimp only at hSw); go_simp; all_goals with_reducible rfl)); (try simp only [Act.put, List.setIfInBounds_toArray, List.set_cons_zero, List.set_cons_succ])); (refine wpAnyH_take (i := 3) (v := ?_) (by simp only [List.getElem?_toArray, List.getElem?_cons_succ, List.getElem?_cons_zero]; rfl) (by kernel_rfl) (by kernel_rfl) (by kernel_rfl) (by exact fun _ _ _ h => h) (Or.inl ⟨by rfl, ?_⟩) hHeld ?_; rotate_left; (focus (intro w hSw; (try dsimp only at hSw); go_simp; all_goals with_reducible rfl)); (try simp only [Act.put, List.setIfInBounds_toArray, List.set_cons_zero, List.set_cons_succ])); (refine wpAnyH_take (i := 4) (v := ?_) (by simp only [List.getElem?_toArray, List.getElem?_cons_succ, List.getElem?_cons_zero]; rfl) (by kernel_rfl) (by kernel_rfl) (by kernel_rfl) (by exact fun _ _ _ h => h) (Or.inl ⟨by rfl, ?_⟩) hHeld ?_; rotate_left; (focus (intro w hSw; (try dsimp only at hSw); go_simp; all_goals with_reducible rfl)); (try simp only [Act.put, List.setIfInBounds_toArray, List.set_cons_zero, List.set_cons_succ]))
  (refine wpAnyH_ready (rs := [5]) (by kernel_rfl) (by simp) ?_; refine AllReadyH.cons (by simp only [List.getElem?_toArray, List.getElem?_cons_succ, List.getElem?_cons_zero]; rfl) (fun K hK => ?_) AllReadyH.nil; go_simp); (skip); (try go_wp2_with fail); (refine hK.out _ _ ⟨cell_alloc c0 _, cell_alloc c1 _, cell_alloc e0 _⟩ (fun hHeld => ?_)); clear hK K; (try simp only [Act.put, List.setIfInBounds_toArray, List.set_cons_zero, List.set_cons_succ])
  (refine wpAnyH_take (i := 6) (v := ?_) (by simp only [List.getElem?_toArray, List.getElem?_cons_succ, List.getElem?_cons_zero]; rfl) (by kernel_rfl) (by kernel_rfl) (by kernel_rfl) (by exact fun _ _ _ h => h) (Or.inl ⟨by rfl, ?_⟩) hHeld ?_; rotate_left; (focus (intro w hSw; (try dsimp only at hSw); go_simp; all_goals with_reducible rfl)); (try simp only [Act.put, List.setIfInBounds_toArray, List.set_cons_zero, List.set_cons_succ]))
  (refine wpAnyH_done (by kernel_rfl) ?_ _)
  have hor := one_route w2.drew ⟨⟨l, b⟩, h⟩
  have HOR := Lib.hid (SlR.base hor (show w.heap.size ≤ w2.drew.heap.size from HF2.out.size))
  clear hor
  go_wp2
  go_ret
  exact ⟨_, rfl, HOR.out, (HF2.out.drew).alloc _⟩
set_option maxRecDepth 100000 in
set_option maxHeartbeats 8000000 in
theorem lo_succ (d : Nat) (IH : LoSaid d) (l b : Int) (hs : List Int) (a : Option Addr) (c : Nat) (w : World) (hfit : Tb.Fit (d + 1) ⟨l, b⟩ hs) (hr : RdL w a hs) (hc : hs.length ≤ c) (hc63 : c ≤ 9223372036854775807) (hal : ¬ Tb.alike hs) :
    Calls Try.prog 30 #[.agg #[.int .i64 l, .int .i64 b], .slice a hs.length c] w (LvPost (Tb.lv (d + 1) ⟨l, b⟩ hs) w) := by
  have elv : Tb.lv (d + 1) ⟨l, b⟩ hs = Tb.lv d (Tb.child ⟨l, b⟩ 0) (Tb.lowH hs) ++ Tb.lv d (Tb.child ⟨l, b⟩ 1) (Tb.highH hs) := by
    conv => lhs; unfold Tb.lv
    rw [if_neg hal]
  rw [elv]
  have hlen : hs.length ≤ 1000 := by have := hfit.2.2; have := (span_in hfit.1).2; omega
  have hd := decide_eq_false hal
  obtain ⟨b0, o0, rfl, _⟩ := hr 0 hfit.pos
  obtain ⟨hh1, hh2, hh3⟩ := hfit.half
  have hp1 := Tb.span_pos hfit.low.1
  have hl8 := hfit.lt
  dsimp only at hl8
  have hok := hfit.1
  have hb0 : 0 ≤ b := hok.2.2.1
  have hl0 : 0 ≤ l := hok.1
  have hb256 : b < 256 := by rcases Tb.ok_cases hok with h | h | h | h | h | h | h | h | h <;> (have := h.2.2; dsimp only at this; omega)
  have hcall := fun W (hW : Fr NoB w W) => alike_any (some ⟨b0, o0, none⟩) c hs W hlen (hr.keep0 hW)
  rw [hd] at hcall
  have hlow := RdL.low hr
  have hhigh := RdL.high hr
  have ih0 := fun W (hW : Fr NoB w W) => IH (l + 1) (b * 2 + 0) (Tb.lowH hs) (some ⟨b0, o0, none⟩) c W hfit.low (hlow.keep0 hW) (by rw [Tb.lowH_len]; omega) hc63
  have ih1 := fun W (hW : Fr NoB w W) => IH (l + 1) (b * 2 + 1) (Tb.highH hs) (some ⟨b0, o0 + hs.length / 2, none⟩) (c - hs.length / 2) W hfit.high (hhigh.keep0 hW) (by rw [Tb.highH_len]; omega) (by omega)
  rw [Tb.lowH_len] at ih0
  rw [Tb.highH_len] at ih1
  have l0 := lv_len d _ _ hfit.low
  have l1 := lv_len d _ _ hfit.high
  rw [Tb.lowH_len] at l0
  rw [Tb.highH_len] at l1
  have e0 : Tb.lv d ⟨l + 1, b * 2 + 0⟩ (Tb.lowH hs) = Tb.lv d (Tb.child ⟨l, b⟩ 0) (Tb.lowH hs) := rfl
  have e1 : Tb.lv d ⟨l + 1, b * 2 + 1⟩ (Tb.highH hs) = Tb.lv d (Tb.child ⟨l, b⟩ 1) (Tb.highH hs) := rfl
  rw [e0] at ih0
  rw [e1] at ih1
  generalize Tb.lv d (Tb.child ⟨l, b⟩ 0) (Tb.lowH hs) = A at *
  generalize Tb.lv d (Tb.child ⟨l, b⟩ 1) (Tb.highH hs) = B at *
  rw [Int.add_zero] at ih0
  generalize hn : hs.length = n at *
  obtain ⟨m, hm⟩ : ∃ m, m = n / 2 := ⟨_, rfl⟩
  rw [← hm] at ih0 ih1 hh1 l0 l1
  have hm1 : 1 ≤ m := by omega
  have hdiv : (n : Int) / 2 = (m : Int) := by omega
  have hmn : m ≤ n := by omega
  have hmc : ¬ (c = m) := by omega
  have hmni : (m : Int) ≤ (n : Int) := by omega
  have hmci : (m : Int) ≤ (c : Int) := by omega
  have hmw := IntWalk.i64_in (m : Int) (by omega)
  have hw1 := IntWalk.i64_in (l + 1) (by omega)
  have hw2 := IntWalk.i64_in (b * 2) (by omega)
  have hw3 := IntWalk.i64_in (b * 2 + 1) (by omega)
  have HLA : Hid (A.length + B.length ≤ 2147483648) := by show A.length + B.length ≤ 2147483648; omega
  have HPB : Hid (0 < B.length) := l1.1
  have IH0 := Lib.hid ih0; clear ih0; have IH1 := Lib.hid ih1; clear ih1; have HC := Lib.hid hcall; clear hcall
  clear IH hfit hr hlow hhigh hh1 hh2 hh3 hp1 e0 e1 hm hal hd elv hok l0 l1
  go_enter Try.func30, Try.ntmps30
  go_upto_region 1 with fail
  refine wp_name fun w1 hw1 => ?_
  have c0 : w1.cell? ⟨w.heap.size, 0, none⟩ = some (.int .i64 l) := by rw [hw1]; simp
  have c1 : w1.cell? ⟨w.heap.size, 1, none⟩ = some (.int .i64 b) := by rw [hw1]; simp
  have hF : Fr NoB w w1 := by rw [hw1]; (repeat (first | exact Fr.refl _ _ | refine Fr.alloc ?_ _ | refine Fr.setNew ?_ (by omega) _ _ | refine Fr.drewN ?_ _ | refine Fr.drew ?_))
  clear hw1
  have HF := Lib.hid hF; clear hF
  go_wp2_with fail
  refine (HC.out _ HF.out).mono ?_
  rintro e w2 ⟨rfl, hf⟩
  have c0 := cell_fr' hf c0 (fun h => h)
  have c1 := cell_fr' hf c1 (fun h => h)
  have HF2 := Lib.hid (HF.out.trans hf)
  clear hf
  go_upto_region 4 with fail
  refine wp_name fun w3 hw3 => ?_
  have hF3 : Fr NoB w2 w3 := by rw [hw3]; (repeat (first | exact Fr.refl _ _ | refine Fr.alloc ?_ _ | refine Fr.setNew ?_ (by omega) _ _ | refine Fr.drewN ?_ _ | refine Fr.drew ?_))
  have c0 := cell_fr' hF3 c0 (fun h => h)
  have c1 := cell_fr' hF3 c1 (fun h => h)
  have HF3 := Lib.hid (HF2.out.trans hF3)
  clear hw3 hF3
  have hbx : w.heap.size < w3.heap.size := World.block_lt_of_cell? w3 _ c0
  have HBX := Lib.hid hbx
  clear hbx
  have HD := Lib.hid (Fr.drew HF3.out)
  (refine wp_region_held_drew (S := (fun W => W.cell? ⟨w.heap.size, 0, none⟩ = some (.int .i64 l) ∧ W.cell? ⟨w.heap.size, 1, none⟩ = some (.int .i64 b))) (by kernel_rfl) ⟨c0, c1⟩ (fun hHeld => ?_))
  (refine wpAnyH_take (i := 0) (v := ?_) (by simp only [List.getElem?_toArray, List.getElem?_cons_zero]; rfl) (by kernel_rfl) (by kernel_rfl) (by kernel_rfl) (by exact fun _ _ _ h => h) (Or.inl ⟨by rfl, ?_⟩) hHeld ?_; rotate_left; (focus (intro w hSw; (try dsimp only at hSw); go_simp; all_goals with_reducible rfl)); (try simp only [Act.put, List.setIfInBounds_toArray, List.set_cons_zero, List.set_cons_succ])); (refine wpAnyH_take (i := 1) (v := ?_) (by simp only [List.getElem?_toArray, List.getElem?_cons_succ, List.getElem?_cons_zero]; rfl) (by kernel_rfl) (by kernel_rfl) (by kernel_rfl) (by exact fun _ _ _ h => h) (Or.inl ⟨by rfl, ?_⟩) hHeld ?_; rotate_left; (focus (intro w hSw; (try dsimp only at hSw); go_simp; all_goals with_reducible rfl)); (try simp only [Act.put, List.setIfInBounds_toArray, List.set_cons_zero, List.set_cons_succ])); (refine wpAnyH_take (i := 2) (v := ?_) (by simp only [List.getElem?_toArray, List.getElem?_cons_succ, List.getElem?_cons_zero]; rfl) (by kernel_rfl) (by kernel_rfl) (by kernel_rfl) (by exact fun _ _ _ h => h) (Or.inl ⟨by rfl, ?_⟩) hHeld ?_; rotate_left; (focus (intro w hSw; (try dsimp only at hSw); go_simp; all_goals with_reducible rfl)); (try simp only [Act.put, List.setIfInBounds_toArray, List.set_cons_zero, List.set_cons_succ])); (refine wpAnyH_take (i := 3) (v := ?_) (by simp only [List.getElem?_toArray, List.getElem?_cons_succ, List.getElem?_cons_zero]; rfl) (by kernel_rfl) (by kernel_rfl) (by kernel_rfl) (by exact fun _ _ _ h => h) (Or.inl ⟨by rfl, ?_⟩) hHeld ?_; rotate_left; (focus (intro w hSw; (try dsimp only at hSw); go_simp; all_goals with_reducible rfl)); (try simp only [Act.put, List.setIfInBounds_toArray, List.set_cons_zero, List.set_cons_succ])); (refine wpAnyH_take (i := 4) (v := ?_) (by simp only [List.getElem?_toArray, List.getElem?_cons_succ, List.getElem?_cons_zero]; rfl) (by kernel_rfl) (by kernel_rfl) (by kernel_rfl) (by exact fun _ _ _ h => h) (Or.inl ⟨by rfl, ?_⟩) hHeld ?_; rotate_left; (focus (intro w hSw; (try dsimp only at hSw); go_simp; all_goals with_reducible rfl)); (try simp only [Act.put, List.setIfInBounds_toArray, List.set_cons_zero, List.set_cons_succ])); (refine wpAnyH_take (i := 5) (v := ?_) (by simp only [List.getElem?_toArray, List.getElem?_cons_succ, List.getElem?_cons_zero]; rfl) (by kernel_rfl) (by kernel_rfl) (by kernel_rfl) (by exact fun _ _ _ h => h) (Or.inl ⟨by rfl, ?_⟩) hHeld ?_; rotate_left; (focus (intro w hSw; (try dsimp only at hSw); go_simp; all_goals with_reducible rfl)); (try simp only [Act.put, List.setIfInBounds_toArray, List.set_cons_zero, List.set_cons_succ])); (refine wpAnyH_take (i := 6) (v := ?_) (by simp only [List.getElem?_toArray, List.getElem?_cons_succ, List.getElem?_cons_zero]; rfl) (by kernel_rfl) (by kernel_rfl) (by kernel_rfl) (by exact fun _ _ _ h => h) (Or.inl ⟨by rfl, ?_⟩) hHeld ?_; rotate_left; (focus (intro w hSw; (try dsimp only at hSw); go_simp; all_goals with_reducible rfl)); (try simp only [Act.put, List.setIfInBounds_toArray, List.set_cons_zero, List.set_cons_succ])); (refine wpAnyH_take (i := 7) (v := ?_) (by simp only [List.getElem?_toArray, List.getElem?_cons_succ, List.getElem?_cons_zero]; rfl) (by kernel_rfl) (by kernel_rfl) (by kernel_rfl) (by exact fun _ _ _ h => h) (Or.inl ⟨by rfl, ?_⟩) hHeld ?_; rotate_left; (focus (intro w hSw; (try dsimp only at hSw); go_simp; all_goals with_reducible rfl)); (try simp only [Act.put, List.setIfInBounds_toArray, List.set_cons_zero, List.set_cons_succ])); (refine wpAnyH_take (i := 8) (v := ?_) (by simp only [List.getElem?_toArray, List.getElem?_cons_succ, List.getElem?_cons_zero]; rfl) (by kernel_rfl) (by kernel_rfl) (by kernel_rfl) (by exact fun _ _ _ h => h) (Or.inl ⟨by rfl, ?_⟩) hHeld ?_; rotate_left; (focus (intro w hSw; (try dsimp only at hSw); go_simp; all_goals with_reducible rfl)); (try simp only [Act.put, List.setIfInBounds_toArray, List.set_cons_zero, List.set_cons_succ])); (refine wpAnyH_take (i := 9) (v := ?_) (by simp only [List.getElem?_toArray, List.getElem?_cons_succ, List.getElem?_cons_zero]; rfl) (by kernel_rfl) (by kernel_rfl) (by kernel_rfl) (by exact fun _ _ _ h => h) (Or.inl ⟨by rfl, ?_⟩) hHeld ?_; rotate_left; (focus (intro w hSw; (try dsimp only at hSw); go_simp; all_goals with_reducible rfl)); (try simp only [Act.put, List.setIfInBounds_toArray, List.set_cons_zero, List.set_cons_succ]))
  (refine wpAnyH_ready (rs := [10]) (by kernel_rfl) (by simp) ?_; refine AllReadyH.cons (by simp only [List.getElem?_toArray, List.getElem?_cons_succ, List.getElem?_cons_zero]; rfl) (fun K hK => ?_) AllReadyH.nil; go_simp); (refine (IH0.out _ HD.out).mono ?_; rintro e w4 ⟨v0, rfl, hv0, hf⟩; obtain ⟨a0, q0, rfl, _⟩ := hv0.shape; replace c0 := cell_fr' hf c0 (fun h => h); replace c1 := cell_fr' hf c1 (fun h => h); have HF4 := Lib.hid (HD.out.trans hf); have HV0 := Lib.hid (SlR.base hv0 (show w.heap.size + 1 ≤ w3.drew.heap.size from HBX.out)); clear hf hv0); (try go_wp2_with fail); (refine hK.out _ _ ⟨c0, c1⟩ (fun hHeld => ?_)); clear hK K; (try simp only [Act.put, List.setIfInBounds_toArray, List.set_cons_zero, List.set_cons_succ])
  (refine wpAnyH_take (i := 11) (v := ?_) (by simp only [List.getElem?_toArray, List.getElem?_cons_succ, List.getElem?_cons_zero]; rfl) (by kernel_rfl) (by kernel_rfl) (by kernel_rfl) (by exact fun _ _ _ h => h) (Or.inl ⟨by rfl, ?_⟩) hHeld ?_; rotate_left; (focus (intro w hSw; (try dsimp only at hSw); go_simp; all_goals with_reducible rfl)); (try simp only [Act.put, List.setIfInBounds_toArray, List.set_cons_zero, List.set_cons_succ]))
  (refine wpAnyH_done (by kernel_rfl) ?_ _)
  go_upto_region 5 with fail
  have HD4 := Lib.hid (Fr.drew HF4.out)
  have HV0d := Lib.hid (own_keep HV0.out (Fr.drew (Fr.refl NoB w4)) (fun _ _ h => h))
  have C0 := Lib.hid c0
  have C1 := Lib.hid c1
  (refine wp_region_held_drew (S := (fun W => W.cell? ⟨w.heap.size, 0, none⟩ = some (.int .i64 l) ∧ W.cell? ⟨w.heap.size, 1, none⟩ = some (.int .i64 b))) (by kernel_rfl) ⟨c0, c1⟩ (fun hHeld => ?_))
  (refine wpAnyH_take (i := 0) (v := ?_) (by simp only [List.getElem?_toArray, List.getElem?_cons_zero]; rfl) (by kernel_rfl) (by kernel_rfl) (by kernel_rfl) (by exact fun _ _ _ h => h) (Or.inl ⟨by rfl, ?_⟩) hHeld ?_; rotate_left; (focus (intro w hSw; (try dsimp only at hSw); go_simp; all_goals with_reducible rfl)); (try simp only [Act.put, List.setIfInBounds_toArray, List.set_cons_zero, List.set_cons_succ])); (refine wpAnyH_take (i := 1) (v := ?_) (by simp only [List.getElem?_toArray, List.getElem?_cons_succ, List.getElem?_cons_zero]; rfl) (by kernel_rfl) (by kernel_rfl) (by kernel_rfl) (by exact fun _ _ _ h => h) (Or.inl ⟨by rfl, ?_⟩) hHeld ?_; rotate_left; (focus (intro w hSw; (try dsimp only at hSw); go_simp; all_goals with_reducible rfl)); (try simp only [Act.put, List.setIfInBounds_toArray, List.set_cons_zero, List.set_cons_succ])); (refine wpAnyH_take (i := 2) (v := ?_) (by simp only [List.getElem?_toArray, List.getElem?_cons_succ, List.getElem?_cons_zero]; rfl) (by kernel_rfl) (by kernel_rfl) (by kernel_rfl) (by exact fun _ _ _ h => h) (Or.inl ⟨by rfl, ?_⟩) hHeld ?_; rotate_left; (focus (intro w hSw; (try dsimp only at hSw); go_simp; all_goals with_reducible rfl)); (try simp only [Act.put, List.setIfInBounds_toArray, List.set_cons_zero, List.set_cons_succ])); (refine wpAnyH_take (i := 3) (v := ?_) (by simp only [List.getElem?_toArray, List.getElem?_cons_succ, List.getElem?_cons_zero]; rfl) (by kernel_rfl) (by kernel_rfl) (by kernel_rfl) (by exact fun _ _ _ h => h) (Or.inl ⟨by rfl, ?_⟩) hHeld ?_; rotate_left; (focus (intro w hSw; (try dsimp only at hSw); go_simp; all_goals with_reducible rfl)); (try simp only [Act.put, List.setIfInBounds_toArray, List.set_cons_zero, List.set_cons_succ])); (refine wpAnyH_take (i := 4) (v := ?_) (by simp only [List.getElem?_toArray, List.getElem?_cons_succ, List.getElem?_cons_zero]; rfl) (by kernel_rfl) (by kernel_rfl) (by kernel_rfl) (by exact fun _ _ _ h => h) (Or.inl ⟨by rfl, ?_⟩) hHeld ?_; rotate_left; (focus (intro w hSw; (try dsimp only at hSw); go_simp; all_goals with_reducible rfl)); (try simp only [Act.put, List.setIfInBounds_toArray, List.set_cons_zero, List.set_cons_succ])); (refine wpAnyH_take (i := 5) (v := ?_) (by simp only [List.getElem?_toArray, List.getElem?_cons_succ, List.getElem?_cons_zero]; rfl) (by kernel_rfl) (by kernel_rfl) (by kernel_rfl) (by exact fun _ _ _ h => h) (Or.inl ⟨by rfl, ?_⟩) hHeld ?_; rotate_left; (focus (intro w hSw; (try dsimp only at hSw); go_simp; all_goals with_reducible rfl)); (try simp only [Act.put, List.setIfInBounds_toArray, List.set_cons_zero, List.set_cons_succ])); (refine wpAnyH_take (i := 6) (v := ?_) (by simp only [List.getElem?_toArray, List.getElem?_cons_succ, List.getElem?_cons_zero]; rfl) (by kernel_rfl) (by kernel_rfl) (by kernel_rfl) (by exact fun _ _ _ h => h) (Or.inl ⟨by rfl, ?_⟩) hHeld ?_; rotate_left; (focus (intro w hSw; (try dsimp only at hSw); go_simp; all_goals with_reducible rfl)); (try simp only [Act.put, List.setIfInBounds_toArray, List.set_cons_zero, List.set_cons_succ])); (refine wpAnyH_take (i := 7) (v := ?_) (by simp only [List.getElem?_toArray, List.getElem?_cons_succ, List.getElem?_cons_zero]; rfl) (by kernel_rfl) (by kernel_rfl) (by kernel_rfl) (by exact fun _ _ _ h => h) (Or.inl ⟨by rfl, ?_⟩) hHeld ?_; rotate_left; (focus (intro w hSw; (try dsimp only at hSw); go_simp; all_goals with_reducible rfl)); (try simp only [Act.put, List.setIfInBounds_toArray, List.set_cons_zero, List.set_cons_succ])); (refine wpAnyH_take (i := 8) (v := ?_) (by simp only [List.getElem?_toArray, List.getElem?_cons_succ, List.getElem?_cons_zero]; rfl) (by kernel_rfl) (by kernel_rfl) (by kernel_rfl) (by exact fun _ _ _ h => h) (Or.inl ⟨by rfl, ?_⟩) hHeld ?_; rotate_left; (focus (intro w hSw; (try dsimp only at hSw); go_simp; all_goals with_reducible rfl)); (try simp only [Act.put, List.setIfInBounds_toArray, List.set_cons_zero, List.set_cons_succ])); (refine wpAnyH_take (i := 9) (v := ?_) (by simp only [List.getElem?_toArray, List.getElem?_cons_succ, List.getElem?_cons_zero]; rfl) (by kernel_rfl) (by kernel_rfl) (by kernel_rfl) (by exact fun _ _ _ h => h) (Or.inl ⟨by rfl, ?_⟩) hHeld ?_; rotate_left; (focus (intro w hSw; (try dsimp only at hSw); go_simp; all_goals with_reducible rfl)); (try simp only [Act.put, List.setIfInBounds_toArray, List.set_cons_zero, List.set_cons_succ])); (refine wpAnyH_take (i := 10) (v := ?_) (by simp only [List.getElem?_toArray, List.getElem?_cons_succ, List.getElem?_cons_zero]; rfl) (by kernel_rfl) (by kernel_rfl) (by kernel_rfl) (by exact fun _ _ _ h => h) (Or.inl ⟨by rfl, ?_⟩) hHeld ?_; rotate_left; (focus (intro w hSw; (try dsimp only at hSw); go_simp; all_goals with_reducible rfl)); (try simp only [Act.put, List.setIfInBounds_toArray, List.set_cons_zero, List.set_cons_succ])); (refine wpAnyH_take (i := 11) (v := ?_) (by simp only [List.getElem?_toArray, List.getElem?_cons_succ, List.getElem?_cons_zero]; rfl) (by kernel_rfl) (by kernel_rfl) (by kernel_rfl) (by exact fun _ _ _ h => h) (Or.inl ⟨by rfl, ?_⟩) hHeld ?_; rotate_left; (focus (intro w hSw; (try dsimp only at hSw); go_simp; all_goals with_reducible rfl)); (try simp only [Act.put, List.setIfInBounds_toArray, List.set_cons_zero, List.set_cons_succ]))
  (refine wpAnyH_ready (rs := [12]) (by kernel_rfl) (by simp) ?_; refine AllReadyH.cons (by simp only [List.getElem?_toArray, List.getElem?_cons_succ, List.getElem?_cons_zero]; rfl) (fun K hK => ?_) AllReadyH.nil; go_simp); (refine (IH1.out _ HD4.out).mono ?_; rintro e w5 ⟨v1, rfl, hv1, hf⟩; obtain ⟨g1, q1, rfl, hrs⟩ : ∃ g q, v1 = .slice (some ⟨g, 0, none⟩) B.length q ∧ Hid (Rs w5 (some ⟨g, 0, none⟩) B) := (sl_some hv1 HPB.out); replace c0 := cell_fr' hf c0 (fun h => h); replace c1 := cell_fr' hf c1 (fun h => h); have HF5 := Lib.hid (HD4.out.trans hf); have HV1 := Lib.hid (own_keep HV0d.out hf (fun _ _ h => h)); clear hf hv1); (try go_wp2_with fail); (refine hK.out _ _ ⟨c0, c1⟩ (fun hHeld => ?_)); clear hK K; (try simp only [Act.put, List.setIfInBounds_toArray, List.set_cons_zero, List.set_cons_succ])
  have HNW := Lib.hid (Rs.news hrs.out rfl)
  have hll : ((rtI B).map (Value.int .i64)).length = B.length * 3 := by rw [List.length_map, rtI_len]
  have HLL := Lib.hid hll
  have hb5 : w.heap.size + 1 ≤ w5.heap.size := World.block_lt_of_cell? w5 _ c0
  clear hll
  refine wpAnyH_ready (rs := [13]) (by kernel_rfl) (by simp) ?_
  refine AllReadyH.cons (by simp only [List.getElem?_toArray, List.getElem?_cons_succ, List.getElem?_cons_zero]; rfl) (fun K hK => ?_) AllReadyH.nil
  refine step_own (by rfl) (.tmp 29) (.tmp 41) 22 46 3 24 (.agg #[.int .i64 0, .int .i64 0, .int .i64 0]) (by rfl) Try.underlying22 Try.info46 rfl (by omega) (w.heap.size + 1) (.slice a0 A.length q0) A.length _ (by rfl) HV1.out ⟨g1, 0, none⟩ B.length q1 ((rtI B).map (Value.int .i64)) (by rfl) HLL.out HNW.out (ints_one _) HLA.out (by omega) hb5 ?_
  intro v2 w6 hv2 hf
  have hv3 : SlR w6 (w.heap.size + 1) v2 (A ++ B) := by
    unfold SlR
    rw [rtI_app, List.map_append, List.length_append]
    exact hv2
  have hnb : ∀ g, (Value.slice a0 A.length q0).ownBlock = some g → g ≠ w.heap.size := fun g hg => by have := (World.ownsRow.lt HV1.out g hg).1; omega
  have HF6 := Lib.hid (HF5.out.ownB HV1.out (Nat.le_succ _) hf)
  have HV3 := Lib.hid (SlR.base hv3 (Nat.le_succ _))
  have x0 := cell_fr' hf c0 (fun h => hnb _ h rfl)
  have x1 := cell_fr' hf c1 (fun h => hnb _ h rfl)
  clear hv2 hf hv3 hnb
  refine hK.out _ _ ⟨x0, x1⟩ (fun hHeld => ?_)
  clear hK K
  (try simp only [Act.put, List.setIfInBounds_toArray, List.set_cons_zero, List.set_cons_succ])
  (refine wpAnyH_take (i := 14) (v := ?_) (by simp only [List.getElem?_toArray, List.getElem?_cons_succ, List.getElem?_cons_zero]; rfl) (by kernel_rfl) (by kernel_rfl) (by kernel_rfl) (by exact fun _ _ _ h => h) (Or.inl ⟨by rfl, ?_⟩) hHeld ?_; rotate_left; (focus (intro w hSw; (try dsimp only at hSw); go_simp; all_goals with_reducible rfl)); (try simp only [Act.put, List.setIfInBounds_toArray, List.set_cons_zero, List.set_cons_succ]))
  (refine wpAnyH_done (by kernel_rfl) ?_ _)
  go_wp2
  go_ret
  exact ⟨v2, rfl, HV3.out, HF6.out⟩
theorem lo_any : ∀ d, LoSaid d
  | 0 => fun l b hs a c w hfit hr _ _ => lo_alike 0 l b hs a c w hfit hr ((Tb.mkT_alike 0 _ hs hfit).1.1 rfl)
  | d + 1 => fun l b hs a c w hfit hr hc hc63 => by
    by_cases hal : Tb.alike hs
    · exact lo_alike (d + 1) l b hs a c w hfit hr hal
    · exact lo_succ d (lo_any d) l b hs a c w hfit hr hc hc63 hal
end Go.Proofs.Ytglngngcohcmfaa
