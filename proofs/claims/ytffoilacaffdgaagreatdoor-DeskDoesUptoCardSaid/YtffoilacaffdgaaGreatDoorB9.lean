/- Walks: alike; trie.of, trie.Of, trie.Same. -/
import Derived.Test.YtffoilacaffdgaaGreatDoorB8
import Derived.Shelf.Sort.Plain
import Derived.Test.YtffoilacaffdgaaGreatDoorProg
import Derived.Test.YtffoilacaffdgaaGreatDoorB1
import Derived.Test.YtffoilacaffdgaaGreatDoorB3
import Derived.Sort.OwnSortedInts
set_option maxRecDepth 100000
set_option maxHeartbeats 8000000
namespace Go.Proofs.YtffoilacaffdgaaGreatDoor
open Go.RowKit Go.Deep
def RdL (w : World) (a : Option Addr) (hs : List Int) : Prop := Rd w a hs.length (fun i => hs.getD i 0)
theorem RdL.keep0 {w w' : World} {a : Option Addr} {hs : List Int} (h : RdL w a hs) (hf : Fr NoB w w') : RdL w' a hs := Rd.keep h hf (fun _ _ h => h)
theorem RdL.low {w : World} {b o : Nat} {hs : List Int} (h : RdL w (some ⟨b, o, none⟩) hs) : RdL w (some ⟨b, o, none⟩) (Tb.lowH hs) := by
 intro k hk
 rw [Tb.lowH_len] at hk
 obtain ⟨b', o', e, c⟩ := h k (by omega)
 exact ⟨b', o', e, by dsimp only at c ⊢; rw [Tb.lowH_get hk]; exact c⟩
theorem RdL.high {w : World} {b o : Nat} {hs : List Int} (h : RdL w (some ⟨b, o, none⟩) hs) : RdL w (some ⟨b, o + hs.length / 2, none⟩) (Tb.highH hs) := by
 intro k hk
 rw [Tb.highH_len] at hk
 obtain ⟨b', o', e, c⟩ := h (hs.length / 2 + k) (by omega)
 cases e
 refine ⟨b, o + hs.length / 2, rfl, ?_⟩
 dsimp only at c ⊢
 rw [Tb.highH_get, Nat.add_assoc]
 exact c
def AlkRel (hs : List Int) (w : World) (i : Value) (wr : World) : Prop := ∃ k : Nat, 1 ≤ k ∧ (k : Int) ≤ 1001 ∧ i = .int .i64 k ∧ (∀ j, j < k → j < hs.length → hs.getD j 0 = hs.getD 0 0) ∧ Fr NoB w wr
theorem alike_n (a : Option Addr) (c n : Nat) (hs : List Int) (w : World) (hl : n ≤ 1000) (hn : n = hs.length) (h : RdL w a hs) :
  Calls Tryz.prog 100 #[.slice a n c] w (BoolFr (decide (Tb.alike hs)) w) := by
 have H := zh h; clear h; have HN := zh hn; clear hn
 go_enter Tryz.func100, Tryz.ntmps100
 go_wp2
 go_loopw [3] (fun i wr => AlkRel hs w i wr) (fun i _ => n - (intOf i).toNat)
 case atStart => exact ⟨1, by omega, by omega, rfl, fun j hj _ => by rw [show j = 0 from by omega], Fr.refl _ _⟩
 case round =>
  obtain ⟨k, hk1, hk2, rfl, hal, hf⟩ := hrel
  have HF := zh hf; clear hf; have HAL := zh hal; clear hal;by_cases hkk : k < n
  ·obtain ⟨b0, o0, rfl, c0⟩ := (RdL.keep0 H.out HF.out) 0 (by have := HN.out; omega)
   obtain ⟨b1, o1, e', c1⟩ := (RdL.keep0 H.out HF.out) k (by have := HN.out; omega)
   cases e'
   dsimp only at c0 c1;rw [Nat.add_zero] at c0
   generalize hx : hs.getD k 0 = x at *;generalize hy : hs.getD 0 0 = y at *
   have hki : (k : Int) < (n : Int) := by omega
   have h0i : (0 : Int) < (n : Int) := by omega
   have h0n : 0 < n := by omega
   by_cases e : x = y
   ·subst e;have HX := zh hx; have HY := zh hy
    clear hx hy;go_wp2
    go_quiet (fail)
    go_wp2;go_roundw
    case rel => exact ⟨k + 1, by omega, by omega, by go_num, fun j hj hjl => by
     by_cases e : j = k
     ·rw [e, HX.out, HY.out]
     rw [HY.out]; exact HAL.out j (by omega) hjl, HF.out.drewN _⟩
    case measure => simp [intOf]; omega
   have hb : (x != y) = true := by simpa using e
   have E := zh (ret_bool (decide_eq_false (show ¬ Tb.alike hs from fun h => e (by rw [← hx, ← hy]; exact h k (by have := HN.out; omega)))).symm)
   clear hx hy e;go_wp2
   go_quiet (fail)
   go_wp2;go_ret
   exact ⟨E.out, HF.out.drewN _⟩
  have E := zh (ret_bool (decide_eq_true (show Tb.alike hs from fun j hj => HAL.out j (by have := HN.out; omega) hj)).symm)
  go_wp2;go_ret
  exact ⟨E.out, HF.out⟩
theorem alike_any (a : Option Addr) (c : Nat) (hs : List Int) (w : World) (hl : hs.length ≤ 1000) (h : RdL w a hs) :
  Calls Tryz.prog 100 #[.slice a hs.length c] w (BoolFr (decide (Tb.alike hs)) w) := alike_n a c hs.length hs w hl rfl h
def CutOf (T0 T1 : Tb.Tr) (p : Tb.Pf) (q : Nat) (w : World) (s9 s10 : Value) (wx : World) : Prop :=
 ∃ bl br, s9 = .pointer (some ⟨bl, 0, none⟩) ∧ s10 = .pointer (some ⟨br, 0, none⟩) ∧ TrAt wx T0 bl ∧ TrAt wx T1 br ∧ wx.cell? ⟨q, 0, none⟩ = some (.int .i64 p.len) ∧ wx.cell? ⟨q, 1, none⟩ = some (.int .i64 p.bits) ∧ Fr NoB w wx
def OfTPost (T : Tb.Tr) (w : World) (e : Ending) (w' : World) : Prop := ∃ b, e = .returned (.pointer (some ⟨b, 0, none⟩)) ∧ TrAt w' T b ∧ Fr NoB w w'
theorem new5 (w : World) (x0 x1 x2 x3 x4 : Value) (t : TypeId) : (w.alloc (.cells #[x0, x1, x2, x3, x4] t)).cell? ⟨w.heap.size, 0, none⟩ = some x0 ∧ (w.alloc (.cells #[x0, x1, x2, x3, x4] t)).cell? ⟨w.heap.size, 1, none⟩ = some x1 ∧
  (w.alloc (.cells #[x0, x1, x2, x3, x4] t)).cell? ⟨w.heap.size, 2, none⟩ = some x2 ∧ (w.alloc (.cells #[x0, x1, x2, x3, x4] t)).cell? ⟨w.heap.size, 3, none⟩ = some x3 ∧ (w.alloc (.cells #[x0, x1, x2, x3, x4] t)).cell? ⟨w.heap.size, 4, none⟩ = some x4 := by
 refine ⟨?_, ?_, ?_, ?_, ?_⟩ <;> simp
theorem new_leaf (w : World) (p : Tb.Pf) (h : Int) (t : TypeId) : TrAt (w.alloc (.cells #[.int .i64 p.len, .int .i64 p.bits, .int .i64 h, .pointer none, .pointer none] t)) (.leaf p h) w.heap.size := by
 obtain ⟨h0, h1, h2, h3, h4⟩ := new5 w (.int .i64 p.len) (.int .i64 p.bits) (.int .i64 h) (.pointer none) (.pointer none) t
 exact ⟨h0, h1, h2, h3, h4⟩
theorem new_node (w : World) (p : Tb.Pf) (bl br : Nat) (l r : Tb.Tr) (t : TypeId) (hl : TrAt w l bl) (hr : TrAt w r br) : TrAt (w.alloc (.cells #[.int .i64 p.len, .int .i64 p.bits, .int .i64 0, .pointer (some ⟨bl, 0, none⟩), .pointer (some ⟨br, 0, none⟩)] t)) (.node p l r) w.heap.size := by
 obtain ⟨h0, h1, h2, h3, h4⟩ := new5 w (.int .i64 p.len) (.int .i64 p.bits) (.int .i64 0) (.pointer (some ⟨bl, 0, none⟩)) (.pointer (some ⟨br, 0, none⟩)) t
 exact ⟨bl, br, ⟨h0, h1, h2, h3, h4⟩, hl.keep0 ((Fr.refl _ _).alloc _), hr.keep0 ((Fr.refl _ _).alloc _)⟩
def OfSaid (d : Nat) : Prop := ∀ (l b : Int) (hs : List Int) (a : Option Addr) (c : Nat) (w : World), Tb.Fit d ⟨l, b⟩ hs → RdL w a hs → hs.length ≤ c → c ≤ 9223372036854775807 →
  Calls Tryz.prog 149 #[.agg #[.int .i64 l, .int .i64 b], .slice a hs.length c] w (OfTPost (Tb.mkT d ⟨l, b⟩ hs) w)
theorem of_zero : OfSaid 0 := by
  intro l b hs a c w hfit hr hc hc63
  have hlen : hs.length = 1 := by
   have h1 := hfit.2.2
   have h2 := hfit.2.1
   dsimp only at h2
   have : Tb.span ⟨l, b⟩ = 1 := by
    rcases Tb.ok_cases hfit.1 with h | h | h | h | h | h | h | h | h <;> (obtain ⟨e, e2, _⟩ := h; dsimp only at e; omega)
   omega
  obtain ⟨b0, o0, rfl, e0⟩ := hr 0 (by omega)
  dsimp only at e0;rw [Nat.add_zero] at e0
  show Calls Tryz.prog 149 _ w (OfTPost (.leaf ⟨l, b⟩ (hs.getD 0 0)) w)
  generalize hs.getD 0 0 = h at *;rw [hlen]
  clear hr hfit hc hlen;go_enter Tryz.func149, Tryz.ntmps149
  go_upto_region 2 with fail
  refine wp_name fun w1 hw1 => ?_
  have c0 : w1.cell? ⟨w.heap.size, 0, none⟩ = some (.int .i64 l) := by rw [hw1]; simp
  have c1 : w1.cell? ⟨w.heap.size, 1, none⟩ = some (.int .i64 b) := by rw [hw1]; simp
  have hF : Fr NoB w w1 := by rw [hw1]; (repeat (first | exact Fr.refl _ _ | refine Fr.alloc ?_ _ | refine Fr.setNew ?_ (by omega) _ _ | refine Fr.drewN ?_ _ | refine Fr.drew ?_))
  have e0 := cell_fr' hF e0 nB
  clear hw1;have HF := zh hF; clear hF
  (refine wp_region_held_drew (S := (fun W => W.cell? ⟨w.heap.size, 0, none⟩ = some (.int .i64 l) ∧ W.cell? ⟨w.heap.size, 1, none⟩ = some (.int .i64 b) ∧ W.cell? ⟨b0, o0, none⟩ = some (.int .i64 h))) (by kernel_rfl) ⟨c0, c1, e0⟩ (fun hHeld => ?_))
  (refine tk (v := ?_) 0 (by simp only [gx]; rfl) hHeld (.inl ⟨by rfl, ?_⟩) ?_; rotate_left; (focus (intro w k; (try dsimp only at k); go_simp; all_goals with_reducible rfl)); (try simp only [Act.put, px])); (refine tk (v := ?_) 1 (by simp only [gx]; rfl) hHeld (.inl ⟨by rfl, ?_⟩) ?_; rotate_left; (focus (intro w k; (try dsimp only at k); go_simp; all_goals with_reducible rfl)); (try simp only [Act.put, px])); (refine tk (v := ?_) 2 (by simp only [gx]; rfl) hHeld (.inl ⟨by rfl, ?_⟩) ?_; rotate_left; (focus (intro w k; (try dsimp only at k); go_simp; all_goals with_reducible rfl)); (try simp only [Act.put, px])); (refine tk (v := ?_) 3 (by simp only [gx]; rfl) hHeld (.inl ⟨by rfl, ?_⟩) ?_; rotate_left; (focus (intro w k; (try dsimp only at k); go_simp; all_goals with_reducible rfl)); (try simp only [Act.put, px])); (refine tk (v := ?_) 4 (by simp only [gx]; rfl) hHeld (.inl ⟨by rfl, ?_⟩) ?_; rotate_left; (focus (intro w k; (try dsimp only at k); go_simp; all_goals with_reducible rfl)); (try simp only [Act.put, px]))
  (refine wpAnyH_ready (rs := [5]) (by kernel_rfl) (by simp) ?_; refine AllReadyH.cons (by simp only [gx]; rfl) (fun K hK => ?_) AllReadyH.nil; go_simp); (skip); (try go_wp2_with fail); (refine hK.out _ _ ⟨cell_alloc c0 _, cell_alloc c1 _, cell_alloc e0 _⟩ (fun hHeld => ?_)); clear hK K; (try simp only [Act.put, px])
  (refine tk (v := ?_) 6 (by simp only [gx]; rfl) hHeld (.inl ⟨by rfl, ?_⟩) ?_; rotate_left; (focus (intro w k; (try dsimp only at k); go_simp; all_goals with_reducible rfl)); (try simp only [Act.put, px]))
  (refine wpAnyH_done (by kernel_rfl) ?_ _)
  go_wp2;go_ret
  exact ⟨_, rfl, new_leaf w1.drew ⟨l, b⟩ h _, (HF.out.drew).alloc _⟩
theorem of_succ (d : Nat) (IH : OfSaid d) : OfSaid (d + 1) := by
  intro l b hs a c w hfit hr hc hc63;obtain ⟨b0, o0, rfl, _⟩ := hr 0 hfit.pos
  obtain ⟨hh1, hh2, hh3⟩ := hfit.half
  have hp1 := Tb.span_pos hfit.low.1
  have hl8 := hfit.lt
  dsimp only at hl8;have hlow := RdL.low hr
  have hhigh := RdL.high hr
  have ih0 := fun W (hW : Fr NoB w W) => IH (l + 1) (b * 2 + 0) (Tb.lowH hs) (some ⟨b0, o0, none⟩) c W hfit.low (hlow.keep0 hW) (by rw [Tb.lowH_len]; omega) hc63
  have ih1 := fun W (hW : Fr NoB w W) => IH (l + 1) (b * 2 + 1) (Tb.highH hs) (some ⟨b0, o0 + hs.length / 2, none⟩) (c - hs.length / 2) W hfit.high (hhigh.keep0 hW) (by rw [Tb.highH_len]; omega) (by omega)
  rw [Tb.lowH_len] at ih0;rw [Tb.highH_len] at ih1
  have hs256 : Tb.span ⟨l, b⟩ ≤ 256 := (span_in hfit.1).2
  have hlen256 : (hs.length : Int) ≤ 256 := by have := hfit.2.2; omega
  have hok := hfit.1
  show Calls Tryz.prog 149 _ w (OfTPost (Tb.join ⟨l, b⟩ (Tb.mkT d (Tb.child ⟨l, b⟩ 0) (Tb.lowH hs)) (Tb.mkT d (Tb.child ⟨l, b⟩ 1) (Tb.highH hs))) w)
  have e0 : Tb.mkT d ⟨l + 1, b * 2 + 0⟩ (Tb.lowH hs) = Tb.mkT d (Tb.child ⟨l, b⟩ 0) (Tb.lowH hs) := rfl
  have e1 : Tb.mkT d ⟨l + 1, b * 2 + 1⟩ (Tb.highH hs) = Tb.mkT d (Tb.child ⟨l, b⟩ 1) (Tb.highH hs) := rfl
  rw [e0] at ih0;rw [e1] at ih1
  generalize Tb.mkT d (Tb.child ⟨l, b⟩ 0) (Tb.lowH hs) = T0 at *;generalize Tb.mkT d (Tb.child ⟨l, b⟩ 1) (Tb.highH hs) = T1 at *
  rw [Int.add_zero] at ih0;generalize hn : hs.length = n at *
  obtain ⟨m, hm⟩ : ∃ m, m = n / 2 := ⟨_, rfl⟩
  rw [← hm] at ih0 ih1 hh1;have hnm : n - m = m := by omega
  have hm1 : 1 ≤ m := by omega
  have hdiv : (n : Int) / 2 = (m : Int) := by omega
  have hn1 : ((n : Int) == 1) = false := by simp; omega
  have hmn : m ≤ n := by omega
  have hmc : ¬ (c = m) := by omega
  have hmni : (m : Int) ≤ (n : Int) := by omega
  have hmci : (m : Int) ≤ (c : Int) := by omega
  have hmw := IntWalk.i64_in (m : Int) (by omega)
  have IH0 := zh ih0; clear ih0; have IH1 := zh ih1; clear ih1; have HOK := zh hok; clear hok; have HN := zh hn; clear hn; have HNM := zh hnm; clear hnm;clear IH hfit hr hlow hhigh hh1 hh2 hh3 hp1 e0 e1 hm hs256
  go_enter Tryz.func149, Tryz.ntmps149
  go_upto_region 3 with fail
  refine wp_name fun w1 hw1 => ?_
  have c0 : w1.cell? ⟨w.heap.size, 0, none⟩ = some (.int .i64 l) := by rw [hw1]; simp
  have c1 : w1.cell? ⟨w.heap.size, 1, none⟩ = some (.int .i64 b) := by rw [hw1]; simp
  have hF : Fr NoB w w1 := by rw [hw1]; (repeat (first | exact Fr.refl _ _ | refine Fr.alloc ?_ _ | refine Fr.setNew ?_ (by omega) _ _ | refine Fr.drewN ?_ _ | refine Fr.drew ?_))
  clear hw1;have HF := zh hF; clear hF
  go_wp2_with fail;refine (Child0 l b _ HOK.out hl8).mono ?_
  rintro e w2 ⟨rfl, hf⟩
  have c0 := cell_fr' hf c0 nB
  have c1 := cell_fr' hf c1 nB
  have HF2 := zh (HF.out.trans hf)
  clear hf;unfold pfA Tb.child
  dsimp only;go_upto_region 4 with fail
  refine wp_name fun w3 hw3 => ?_
  have d0 : w3.cell? ⟨w2.heap.size, 0, none⟩ = some (.int .i64 (l + 1)) := by rw [hw3]; simp
  have d1 : w3.cell? ⟨w2.heap.size, 1, none⟩ = some (.int .i64 (b * 2)) := by rw [hw3]; simp
  have hF : Fr NoB w2 w3 := by rw [hw3]; (repeat (first | exact Fr.refl _ _ | refine Fr.alloc ?_ _ | refine Fr.setNew ?_ (by omega) _ _ | refine Fr.drewN ?_ _ | refine Fr.drew ?_))
  have c0 := cell_fr' hF c0 nB
  have c1 := cell_fr' hF c1 nB
  have HF3 := zh (HF2.out.trans hF)
  clear hw3 hF;generalize w2.heap.size = q0 at *
  go_wp2_with fail;refine (Child1 l b _ HOK.out hl8).mono ?_
  rintro e w4 ⟨rfl, hf⟩
  have c0 := cell_fr' hf c0 nB
  have c1 := cell_fr' hf c1 nB
  have d0 := cell_fr' hf d0 nB
  have d1 := cell_fr' hf d1 nB
  have HF4 := zh (HF3.out.trans hf)
  clear hf;unfold pfA Tb.child
  dsimp only;go_upto_region 5 with fail
  refine wp_name fun w5 hw5 => ?_
  have f0 : w5.cell? ⟨w4.heap.size, 0, none⟩ = some (.int .i64 (l + 1)) := by rw [hw5]; simp
  have f1 : w5.cell? ⟨w4.heap.size, 1, none⟩ = some (.int .i64 (b * 2 + 1)) := by rw [hw5]; simp
  have hF : Fr NoB w4 w5 := by rw [hw5]; (repeat (first | exact Fr.refl _ _ | refine Fr.alloc ?_ _ | refine Fr.setNew ?_ (by omega) _ _ | refine Fr.drewN ?_ _ | refine Fr.drew ?_))
  have c0 := cell_fr' hF c0 nB
  have c1 := cell_fr' hF c1 nB
  have d0 := cell_fr' hF d0 nB
  have d1 := cell_fr' hF d1 nB
  have HF5 := zh (HF4.out.trans hF)
  clear hw5 hF;generalize w4.heap.size = q1 at *
  have HD := zh (Fr.drew HF5.out)
  go_cut [9, 10] (fun s9 s10 wx => CutOf T0 T1 ⟨l, b⟩ w.heap.size w s9 s10 wx)
  case first =>
   (refine wp_region_held_drew (S := (fun W => W.cell? ⟨q0, 0, none⟩ = some (.int .i64 (l + 1)) ∧ W.cell? ⟨q0, 1, none⟩ = some (.int .i64 (b * 2)) ∧ W.cell? ⟨q1, 0, none⟩ = some (.int .i64 (l + 1)) ∧ W.cell? ⟨q1, 1, none⟩ = some (.int .i64 (b * 2 + 1)))) (by kernel_rfl) ⟨d0, d1, f0, f1⟩ (fun hHeld => ?_))
   (refine tk (v := ?_) 0 (by simp only [gx]; rfl) hHeld (.inl ⟨by rfl, ?_⟩) ?_; rotate_left; (focus (intro w k; (try dsimp only at k); go_simp; all_goals with_reducible rfl)); (try simp only [Act.put, px])); (refine tk (v := ?_) 1 (by simp only [gx]; rfl) hHeld (.inl ⟨by rfl, ?_⟩) ?_; rotate_left; (focus (intro w k; (try dsimp only at k); go_simp; all_goals with_reducible rfl)); (try simp only [Act.put, px])); (refine tk (v := ?_) 2 (by simp only [gx]; rfl) hHeld (.inl ⟨by rfl, ?_⟩) ?_; rotate_left; (focus (intro w k; (try dsimp only at k); go_simp; all_goals with_reducible rfl)); (try simp only [Act.put, px])); (refine tk (v := ?_) 3 (by simp only [gx]; rfl) hHeld (.inl ⟨by rfl, ?_⟩) ?_; rotate_left; (focus (intro w k; (try dsimp only at k); go_simp; all_goals with_reducible rfl)); (try simp only [Act.put, px])); (refine tk (v := ?_) 4 (by simp only [gx]; rfl) hHeld (.inl ⟨by rfl, ?_⟩) ?_; rotate_left; (focus (intro w k; (try dsimp only at k); go_simp; all_goals with_reducible rfl)); (try simp only [Act.put, px])); (refine tk (v := ?_) 5 (by simp only [gx]; rfl) hHeld (.inl ⟨by rfl, ?_⟩) ?_; rotate_left; (focus (intro w k; (try dsimp only at k); go_simp; all_goals with_reducible rfl)); (try simp only [Act.put, px])); (refine tk (v := ?_) 7 (by simp only [gx]; rfl) hHeld (.inl ⟨by rfl, ?_⟩) ?_; rotate_left; (focus (intro w k; (try dsimp only at k); go_simp; all_goals with_reducible rfl)); (try simp only [Act.put, px])); (refine tk (v := ?_) 8 (by simp only [gx]; rfl) hHeld (.inl ⟨by rfl, ?_⟩) ?_; rotate_left; (focus (intro w k; (try dsimp only at k); go_simp; all_goals with_reducible rfl)); (try simp only [Act.put, px])); (refine tk (v := ?_) 9 (by simp only [gx]; rfl) hHeld (.inl ⟨by rfl, ?_⟩) ?_; rotate_left; (focus (intro w k; (try dsimp only at k); go_simp; all_goals with_reducible rfl)); (try simp only [Act.put, px])); (refine tk (v := ?_) 10 (by simp only [gx]; rfl) hHeld (.inl ⟨by rfl, ?_⟩) ?_; rotate_left; (focus (intro w k; (try dsimp only at k); go_simp; all_goals with_reducible rfl)); (try simp only [Act.put, px])); (refine tk (v := ?_) 11 (by simp only [gx]; rfl) hHeld (.inl ⟨by rfl, ?_⟩) ?_; rotate_left; (focus (intro w k; (try dsimp only at k); go_simp; all_goals with_reducible rfl)); (try simp only [Act.put, px])); (refine tk (v := ?_) 12 (by simp only [gx]; rfl) hHeld (.inl ⟨by rfl, ?_⟩) ?_; rotate_left; (focus (intro w k; (try dsimp only at k); go_simp; all_goals with_reducible rfl)); (try simp only [Act.put, px]))
   (refine wpAnyH_ready (rs := [6]) (by kernel_rfl) (by simp) ?_; refine AllReadyH.cons (by simp only [gx]; rfl) (fun K hK => ?_) AllReadyH.nil; go_simp); (refine (IH0.out _ HD.out).mono ?_; rintro e w6 ⟨bl, rfl, ht0, hf⟩; replace c0 := cell_fr' hf c0 nB; replace c1 := cell_fr' hf c1 nB; replace d0 := cell_fr' hf d0 nB; replace d1 := cell_fr' hf d1 nB; replace f0 := cell_fr' hf f0 nB; replace f1 := cell_fr' hf f1 nB; have HF6 := zh (HD.out.trans hf); have HT0 := zh ht0; clear hf ht0); (try go_wp2_with fail); (refine hK.out _ _ ⟨d0, d1, f0, f1⟩ (fun hHeld => ?_)); clear hK K; (try simp only [Act.put, px])
   (refine wpAnyH_ready (rs := [13]) (by kernel_rfl) (by simp) ?_; refine AllReadyH.cons (by simp only [gx]; rfl) (fun K hK => ?_) AllReadyH.nil; go_simp); (refine (IH1.out _ HF6.out).mono ?_; rintro e w7 ⟨br, rfl, ht1, hf⟩; replace c0 := cell_fr' hf c0 nB; replace c1 := cell_fr' hf c1 nB; replace d0 := cell_fr' hf d0 nB; replace d1 := cell_fr' hf d1 nB; replace f0 := cell_fr' hf f0 nB; replace f1 := cell_fr' hf f1 nB; have HF7 := zh (HF6.out.trans hf); have HT0' := zh (HT0.out.keep0 hf); have HT1 := zh ht1; clear hf ht1); (try go_wp2_with fail); (refine hK.out _ _ ⟨d0, d1, f0, f1⟩ (fun hHeld => ?_)); clear hK K; (try simp only [Act.put, px])
   (refine tk (v := ?_) 14 (by simp only [gx]; rfl) hHeld (.inl ⟨by rfl, ?_⟩) ?_; rotate_left; (focus (intro w k; (try dsimp only at k); go_simp; all_goals with_reducible rfl)); (try simp only [Act.put, px])); (refine tk (v := ?_) 15 (by simp only [gx]; rfl) hHeld (.inl ⟨by rfl, ?_⟩) ?_; rotate_left; (focus (intro w k; (try dsimp only at k); go_simp; all_goals with_reducible rfl)); (try simp only [Act.put, px]))
   (refine wpAnyH_done (by kernel_rfl) ?_ _)
   go_wp2_with fail;go_meet
   exact ⟨bl, br, rfl, rfl, HT0'.out, HT1.out, c0, c1, HF7.out⟩
  case rest =>
   obtain ⟨bl, br, rfl, rfl, ht0, ht1, c0, c1, hf⟩ := hcut
   obtain ⟨w8, rfl⟩ : ∃ w8 : World, w8 = wc := ⟨_, rfl⟩
   clear d0 d1 f0 f1 HD HF5 HF4 HF3 HF2 HF IH0 IH1;have h0 := ht0.c01.2.2
   have h1 := ht1.c01.2.2
   have HT0 := zh ht0;have HT1 := zh ht1
   have HF8 := zh hf;clear ht0 ht1 hf
   dsimp only at c0 c1;have HTD0 := zh (HT0.out.keep0 (Fr.drew (Fr.refl NoB w8)))
   have HTD1 := zh (HT1.out.keep0 (Fr.drew (Fr.refl NoB w8)))
   cases hl0 : T0.isLeaf with
   | true =>
    have HL0 := zh hl0;cases hl1 : T1.isLeaf with
    | true =>
     have HL1 := zh hl1;by_cases he : T0.hop0 = T1.hop0
     ·have HJ : Hid (Tb.join ⟨l, b⟩ T0 T1 = .leaf ⟨l, b⟩ T0.hop0) := by show Tb.join ⟨l, b⟩ T0 T1 = .leaf ⟨l, b⟩ T0.hop0; unfold Tb.join; rw [if_pos ⟨hl0, hl1, he⟩]
      have heb : (T0.hop0 == T1.hop0) = true := by simpa using he
      clear hl0 hl1 he;go_upto_region 6 with fail
      (refine wp_region_held_drew (S := (fun W => W.cell? ⟨bl, 2, none⟩ = some (.int .i64 T0.hop0) ∧ W.cell? ⟨br, 2, none⟩ = some (.int .i64 T1.hop0))) (by kernel_rfl) ⟨h0, h1⟩ (fun hHeld => ?_))
      (refine tk (v := ?_) 0 (by simp only [gx]; rfl) hHeld (.inl ⟨by rfl, ?_⟩) ?_; rotate_left; (focus (intro w k; (try dsimp only at k); go_simp; all_goals with_reducible rfl)); (try simp only [Act.put, px]))
      (refine wpAnyH_ready (rs := [1]) (by kernel_rfl) (by simp) ?_; refine AllReadyH.cons (by simp only [gx]; rfl) (fun K hK => ?_) AllReadyH.nil; go_simp); (refine (Leaf_any T0 bl _ HTD0.out).mono ?_; rw [HL0.out]; rintro e w9 ⟨rfl, rfl⟩); (try go_wp2_with fail); (refine hK.out _ _ ⟨h0, h1⟩ (fun hHeld => ?_)); clear hK K; (try simp only [Act.put, px])
      (refine tk (v := ?_) 2 (by simp only [gx]; rfl) hHeld (.inl ⟨by rfl, ?_⟩) ?_; rotate_left; (focus (intro w k; (try dsimp only at k); go_simp; all_goals with_reducible rfl)); (try simp only [Act.put, px])); (refine tk (v := ?_) 3 (by simp only [gx]; rfl) hHeld (.inl ⟨by rfl, ?_⟩) ?_; rotate_left; (focus (intro w k; (try dsimp only at k); go_simp; all_goals with_reducible rfl)); (try simp only [Act.put, px]))
      (refine wpAnyH_ready (rs := [4]) (by kernel_rfl) (by simp) ?_; refine AllReadyH.cons (by simp only [gx]; rfl) (fun K hK => ?_) AllReadyH.nil; go_simp); (refine (Leaf_any T1 br _ HTD1.out).mono ?_; rw [HL1.out]; rintro e w9 ⟨rfl, rfl⟩); (try go_wp2_with fail); (refine hK.out _ _ ⟨h0, h1⟩ (fun hHeld => ?_)); clear hK K; (try simp only [Act.put, px])
      (refine tk (v := ?_) 5 (by simp only [gx]; rfl) hHeld (.inl ⟨by rfl, ?_⟩) ?_; rotate_left; (focus (intro w k; (try dsimp only at k); go_simp; all_goals with_reducible rfl)); (try simp only [Act.put, px])); (refine tk (v := ?_) 6 (by simp only [gx]; rfl) hHeld (.inl ⟨by rfl, ?_⟩) ?_; rotate_left; (focus (intro w k; (try dsimp only at k); go_simp; all_goals with_reducible rfl)); (try simp only [Act.put, px]))
      (refine tk (v := ?_) 7 (by simp only [gx]; rfl) hHeld (.inl ⟨by rfl, ?_⟩) ?_; rotate_left; (focus (intro w k; (try dsimp only at k); go_simp; all_goals with_reducible rfl)); (try simp only [Act.put, px])); (refine tk (v := ?_) 8 (by simp only [gx]; rfl) hHeld (.inl ⟨by rfl, ?_⟩) ?_; rotate_left; (focus (intro w k; (try dsimp only at k); go_simp; all_goals with_reducible rfl)); (try simp only [Act.put, px])); (refine tk (v := ?_) 9 (by simp only [gx]; rfl) hHeld (.inl ⟨by rfl, ?_⟩) ?_; rotate_left; (focus (intro w k; (try dsimp only at k); go_simp; all_goals with_reducible rfl)); (try simp only [Act.put, px])); (refine tk (v := ?_) 10 (by simp only [gx]; rfl) hHeld (.inl ⟨by rfl, ?_⟩) ?_; rotate_left; (focus (intro w k; (try dsimp only at k); go_simp; all_goals with_reducible rfl)); (try simp only [Act.put, px])); (refine tk (v := ?_) 11 (by simp only [gx]; rfl) hHeld (.inl ⟨by rfl, ?_⟩) ?_; rotate_left; (focus (intro w k; (try dsimp only at k); go_simp; all_goals with_reducible rfl)); (try simp only [Act.put, px])); (refine tk (v := ?_) 12 (by simp only [gx]; rfl) hHeld (.inl ⟨by rfl, ?_⟩) ?_; rotate_left; (focus (intro w k; (try dsimp only at k); go_simp; all_goals with_reducible rfl)); (try simp only [Act.put, px])); (refine tk (v := ?_) 13 (by simp only [gx]; rfl) hHeld (.inl ⟨by rfl, ?_⟩) ?_; rotate_left; (focus (intro w k; (try dsimp only at k); go_simp; all_goals with_reducible rfl)); (try simp only [Act.put, px])); (refine tk (v := ?_) 14 (by simp only [gx]; rfl) hHeld (.inl ⟨by rfl, ?_⟩) ?_; rotate_left; (focus (intro w k; (try dsimp only at k); go_simp; all_goals with_reducible rfl)); (try simp only [Act.put, px])); (refine tk (v := ?_) 15 (by simp only [gx]; rfl) hHeld (.inl ⟨by rfl, ?_⟩) ?_; rotate_left; (focus (intro w k; (try dsimp only at k); go_simp; all_goals with_reducible rfl)); (try simp only [Act.put, px])); (refine tk (v := ?_) 16 (by simp only [gx]; rfl) hHeld (.inl ⟨by rfl, ?_⟩) ?_; rotate_left; (focus (intro w k; (try dsimp only at k); go_simp; all_goals with_reducible rfl)); (try simp only [Act.put, px]))
      (refine wpAnyH_done (by kernel_rfl) ?_ _)
      go_upto_region 7 with fail
      refine wp_name fun w9 hw9 => ?_
      have hF9 : Fr NoB w8 w9 := by rw [hw9]; (repeat (first | exact Fr.refl _ _ | refine Fr.alloc ?_ _ | refine Fr.setNew ?_ (by omega) _ _ | refine Fr.drewN ?_ _ | refine Fr.drew ?_))
      have c0 := cell_fr' hF9 c0 nB
      have c1 := cell_fr' hF9 c1 nB
      have h0 := cell_fr' hF9 h0 nB
      clear hw9;have HF9 := zh (HF8.out.trans hF9)
      clear hF9;(refine wp_region_held_drew (S := (fun W => W.cell? ⟨w.heap.size, 0, none⟩ = some (.int .i64 l) ∧ W.cell? ⟨w.heap.size, 1, none⟩ = some (.int .i64 b) ∧ W.cell? ⟨bl, 2, none⟩ = some (.int .i64 T0.hop0))) (by kernel_rfl) ⟨c0, c1, h0⟩ (fun hHeld => ?_))
      (refine tk (v := ?_) 0 (by simp only [gx]; rfl) hHeld (.inl ⟨by rfl, ?_⟩) ?_; rotate_left; (focus (intro w k; (try dsimp only at k); go_simp; all_goals with_reducible rfl)); (try simp only [Act.put, px])); (refine tk (v := ?_) 1 (by simp only [gx]; rfl) hHeld (.inl ⟨by rfl, ?_⟩) ?_; rotate_left; (focus (intro w k; (try dsimp only at k); go_simp; all_goals with_reducible rfl)); (try simp only [Act.put, px])); (refine tk (v := ?_) 2 (by simp only [gx]; rfl) hHeld (.inl ⟨by rfl, ?_⟩) ?_; rotate_left; (focus (intro w k; (try dsimp only at k); go_simp; all_goals with_reducible rfl)); (try simp only [Act.put, px])); (refine tk (v := ?_) 3 (by simp only [gx]; rfl) hHeld (.inl ⟨by rfl, ?_⟩) ?_; rotate_left; (focus (intro w k; (try dsimp only at k); go_simp; all_goals with_reducible rfl)); (try simp only [Act.put, px])); (refine tk (v := ?_) 4 (by simp only [gx]; rfl) hHeld (.inl ⟨by rfl, ?_⟩) ?_; rotate_left; (focus (intro w k; (try dsimp only at k); go_simp; all_goals with_reducible rfl)); (try simp only [Act.put, px])); (refine tk (v := ?_) 5 (by simp only [gx]; rfl) hHeld (.inl ⟨by rfl, ?_⟩) ?_; rotate_left; (focus (intro w k; (try dsimp only at k); go_simp; all_goals with_reducible rfl)); (try simp only [Act.put, px]))
      (refine wpAnyH_ready (rs := [6]) (by kernel_rfl) (by simp) ?_; refine AllReadyH.cons (by simp only [gx]; rfl) (fun K hK => ?_) AllReadyH.nil; go_simp); (skip); (try go_wp2_with fail); (refine hK.out _ _ ⟨cell_alloc c0 _, cell_alloc c1 _, cell_alloc h0 _⟩ (fun hHeld => ?_)); clear hK K; (try simp only [Act.put, px])
      (refine tk (v := ?_) 7 (by simp only [gx]; rfl) hHeld (.inl ⟨by rfl, ?_⟩) ?_; rotate_left; (focus (intro w k; (try dsimp only at k); go_simp; all_goals with_reducible rfl)); (try simp only [Act.put, px]))
      (refine wpAnyH_done (by kernel_rfl) ?_ _)
      go_wp2;go_ret
      exact ⟨_, rfl, by rw [HJ.out]; exact new_leaf w9.drew ⟨l, b⟩ T0.hop0 _, (HF9.out.drew).alloc _⟩
     have HJ : Hid (Tb.join ⟨l, b⟩ T0 T1 = .node ⟨l, b⟩ T0 T1) := by show Tb.join ⟨l, b⟩ T0 T1 = .node ⟨l, b⟩ T0 T1; unfold Tb.join; rw [if_neg (fun h => he h.2.2)]
     have heb : (T0.hop0 == T1.hop0) = false := by simpa using he
     clear hl0 hl1 he;go_upto_region 6 with fail
     (refine wp_region_held_drew (S := (fun W => W.cell? ⟨bl, 2, none⟩ = some (.int .i64 T0.hop0) ∧ W.cell? ⟨br, 2, none⟩ = some (.int .i64 T1.hop0))) (by kernel_rfl) ⟨h0, h1⟩ (fun hHeld => ?_))
     (refine tk (v := ?_) 0 (by simp only [gx]; rfl) hHeld (.inl ⟨by rfl, ?_⟩) ?_; rotate_left; (focus (intro w k; (try dsimp only at k); go_simp; all_goals with_reducible rfl)); (try simp only [Act.put, px]))
     (refine wpAnyH_ready (rs := [1]) (by kernel_rfl) (by simp) ?_; refine AllReadyH.cons (by simp only [gx]; rfl) (fun K hK => ?_) AllReadyH.nil; go_simp); (refine (Leaf_any T0 bl _ HTD0.out).mono ?_; rw [HL0.out]; rintro e w9 ⟨rfl, rfl⟩); (try go_wp2_with fail); (refine hK.out _ _ ⟨h0, h1⟩ (fun hHeld => ?_)); clear hK K; (try simp only [Act.put, px])
     (refine tk (v := ?_) 2 (by simp only [gx]; rfl) hHeld (.inl ⟨by rfl, ?_⟩) ?_; rotate_left; (focus (intro w k; (try dsimp only at k); go_simp; all_goals with_reducible rfl)); (try simp only [Act.put, px])); (refine tk (v := ?_) 3 (by simp only [gx]; rfl) hHeld (.inl ⟨by rfl, ?_⟩) ?_; rotate_left; (focus (intro w k; (try dsimp only at k); go_simp; all_goals with_reducible rfl)); (try simp only [Act.put, px]))
     (refine wpAnyH_ready (rs := [4]) (by kernel_rfl) (by simp) ?_; refine AllReadyH.cons (by simp only [gx]; rfl) (fun K hK => ?_) AllReadyH.nil; go_simp); (refine (Leaf_any T1 br _ HTD1.out).mono ?_; rw [HL1.out]; rintro e w9 ⟨rfl, rfl⟩); (try go_wp2_with fail); (refine hK.out _ _ ⟨h0, h1⟩ (fun hHeld => ?_)); clear hK K; (try simp only [Act.put, px])
     (refine tk (v := ?_) 5 (by simp only [gx]; rfl) hHeld (.inl ⟨by rfl, ?_⟩) ?_; rotate_left; (focus (intro w k; (try dsimp only at k); go_simp; all_goals with_reducible rfl)); (try simp only [Act.put, px])); (refine tk (v := ?_) 6 (by simp only [gx]; rfl) hHeld (.inl ⟨by rfl, ?_⟩) ?_; rotate_left; (focus (intro w k; (try dsimp only at k); go_simp; all_goals with_reducible rfl)); (try simp only [Act.put, px]))
     (refine tk (v := ?_) 7 (by simp only [gx]; rfl) hHeld (.inl ⟨by rfl, ?_⟩) ?_; rotate_left; (focus (intro w k; (try dsimp only at k); go_simp; all_goals with_reducible rfl)); (try simp only [Act.put, px])); (refine tk (v := ?_) 8 (by simp only [gx]; rfl) hHeld (.inl ⟨by rfl, ?_⟩) ?_; rotate_left; (focus (intro w k; (try dsimp only at k); go_simp; all_goals with_reducible rfl)); (try simp only [Act.put, px])); (refine tk (v := ?_) 9 (by simp only [gx]; rfl) hHeld (.inl ⟨by rfl, ?_⟩) ?_; rotate_left; (focus (intro w k; (try dsimp only at k); go_simp; all_goals with_reducible rfl)); (try simp only [Act.put, px])); (refine tk (v := ?_) 10 (by simp only [gx]; rfl) hHeld (.inl ⟨by rfl, ?_⟩) ?_; rotate_left; (focus (intro w k; (try dsimp only at k); go_simp; all_goals with_reducible rfl)); (try simp only [Act.put, px])); (refine tk (v := ?_) 11 (by simp only [gx]; rfl) hHeld (.inl ⟨by rfl, ?_⟩) ?_; rotate_left; (focus (intro w k; (try dsimp only at k); go_simp; all_goals with_reducible rfl)); (try simp only [Act.put, px])); (refine tk (v := ?_) 12 (by simp only [gx]; rfl) hHeld (.inl ⟨by rfl, ?_⟩) ?_; rotate_left; (focus (intro w k; (try dsimp only at k); go_simp; all_goals with_reducible rfl)); (try simp only [Act.put, px])); (refine tk (v := ?_) 13 (by simp only [gx]; rfl) hHeld (.inl ⟨by rfl, ?_⟩) ?_; rotate_left; (focus (intro w k; (try dsimp only at k); go_simp; all_goals with_reducible rfl)); (try simp only [Act.put, px])); (refine tk (v := ?_) 14 (by simp only [gx]; rfl) hHeld (.inl ⟨by rfl, ?_⟩) ?_; rotate_left; (focus (intro w k; (try dsimp only at k); go_simp; all_goals with_reducible rfl)); (try simp only [Act.put, px])); (refine tk (v := ?_) 15 (by simp only [gx]; rfl) hHeld (.inl ⟨by rfl, ?_⟩) ?_; rotate_left; (focus (intro w k; (try dsimp only at k); go_simp; all_goals with_reducible rfl)); (try simp only [Act.put, px])); (refine tk (v := ?_) 16 (by simp only [gx]; rfl) hHeld (.inl ⟨by rfl, ?_⟩) ?_; rotate_left; (focus (intro w k; (try dsimp only at k); go_simp; all_goals with_reducible rfl)); (try simp only [Act.put, px]))
     (refine wpAnyH_done (by kernel_rfl) ?_ _)
     go_upto_region 8 with fail
     refine wp_name fun w9 hw9 => ?_
     have hF9 : Fr NoB w8 w9 := by rw [hw9]; (repeat (first | exact Fr.refl _ _ | refine Fr.alloc ?_ _ | refine Fr.setNew ?_ (by omega) _ _ | refine Fr.drewN ?_ _ | refine Fr.drew ?_))
     have c0 := cell_fr' hF9 c0 nB
     have c1 := cell_fr' hF9 c1 nB
     clear hw9;have HF9 := zh (HF8.out.trans hF9)
     have HTA := zh (new_node w9 ⟨l, b⟩ bl br T0 T1 224 (HT0.out.keep0 hF9) (HT1.out.keep0 hF9))
     clear hF9;go_wp2
     go_ret
     exact ⟨_, rfl, by rw [HJ.out]; exact HTA.out, HF9.out.alloc _⟩
    | false =>
     have HL1 := zh hl1;have HJ : Hid (Tb.join ⟨l, b⟩ T0 T1 = .node ⟨l, b⟩ T0 T1) := by show Tb.join ⟨l, b⟩ T0 T1 = .node ⟨l, b⟩ T0 T1; unfold Tb.join; rw [if_neg (fun h => by rw [hl1] at h; cases h.2.1)]
     clear hl0 hl1;go_upto_region 6 with fail
     (refine wp_region_held_drew (S := (fun W => W.cell? ⟨bl, 2, none⟩ = some (.int .i64 T0.hop0) ∧ W.cell? ⟨br, 2, none⟩ = some (.int .i64 T1.hop0))) (by kernel_rfl) ⟨h0, h1⟩ (fun hHeld => ?_))
     (refine tk (v := ?_) 0 (by simp only [gx]; rfl) hHeld (.inl ⟨by rfl, ?_⟩) ?_; rotate_left; (focus (intro w k; (try dsimp only at k); go_simp; all_goals with_reducible rfl)); (try simp only [Act.put, px]))
     (refine wpAnyH_ready (rs := [1]) (by kernel_rfl) (by simp) ?_; refine AllReadyH.cons (by simp only [gx]; rfl) (fun K hK => ?_) AllReadyH.nil; go_simp); (refine (Leaf_any T0 bl _ HTD0.out).mono ?_; rw [HL0.out]; rintro e w9 ⟨rfl, rfl⟩); (try go_wp2_with fail); (refine hK.out _ _ ⟨h0, h1⟩ (fun hHeld => ?_)); clear hK K; (try simp only [Act.put, px])
     (refine tk (v := ?_) 2 (by simp only [gx]; rfl) hHeld (.inl ⟨by rfl, ?_⟩) ?_; rotate_left; (focus (intro w k; (try dsimp only at k); go_simp; all_goals with_reducible rfl)); (try simp only [Act.put, px])); (refine tk (v := ?_) 3 (by simp only [gx]; rfl) hHeld (.inl ⟨by rfl, ?_⟩) ?_; rotate_left; (focus (intro w k; (try dsimp only at k); go_simp; all_goals with_reducible rfl)); (try simp only [Act.put, px]))
     (refine wpAnyH_ready (rs := [4]) (by kernel_rfl) (by simp) ?_; refine AllReadyH.cons (by simp only [gx]; rfl) (fun K hK => ?_) AllReadyH.nil; go_simp); (refine (Leaf_any T1 br _ HTD1.out).mono ?_; rw [HL1.out]; rintro e w9 ⟨rfl, rfl⟩); (try go_wp2_with fail); (refine hK.out _ _ ⟨h0, h1⟩ (fun hHeld => ?_)); clear hK K; (try simp only [Act.put, px])
     (refine tk (v := ?_) 5 (by simp only [gx]; rfl) hHeld (.inl ⟨by rfl, ?_⟩) ?_; rotate_left; (focus (intro w k; (try dsimp only at k); go_simp; all_goals with_reducible rfl)); (try simp only [Act.put, px])); (refine tk (v := ?_) 6 (by simp only [gx]; rfl) hHeld (.inl ⟨by rfl, ?_⟩) ?_; rotate_left; (focus (intro w k; (try dsimp only at k); go_simp; all_goals with_reducible rfl)); (try simp only [Act.put, px]))
     (refine tk (v := undef) 7 (by simp only [gx]; rfl) hHeld (.inr ⟨by rfl, rfl⟩) ?_; (try simp only [Act.put, px])); (refine tk (v := undef) 8 (by simp only [gx]; rfl) hHeld (.inr ⟨by rfl, rfl⟩) ?_; (try simp only [Act.put, px])); (refine tk (v := undef) 9 (by simp only [gx]; rfl) hHeld (.inr ⟨by rfl, rfl⟩) ?_; (try simp only [Act.put, px])); (refine tk (v := undef) 10 (by simp only [gx]; rfl) hHeld (.inr ⟨by rfl, rfl⟩) ?_; (try simp only [Act.put, px])); (refine tk (v := undef) 11 (by simp only [gx]; rfl) hHeld (.inr ⟨by rfl, rfl⟩) ?_; (try simp only [Act.put, px])); (refine tk (v := undef) 12 (by simp only [gx]; rfl) hHeld (.inr ⟨by rfl, rfl⟩) ?_; (try simp only [Act.put, px])); (refine tk (v := undef) 13 (by simp only [gx]; rfl) hHeld (.inr ⟨by rfl, rfl⟩) ?_; (try simp only [Act.put, px])); (refine tk (v := undef) 14 (by simp only [gx]; rfl) hHeld (.inr ⟨by rfl, rfl⟩) ?_; (try simp only [Act.put, px])); (refine tk (v := undef) 15 (by simp only [gx]; rfl) hHeld (.inr ⟨by rfl, rfl⟩) ?_; (try simp only [Act.put, px])); (refine tk (v := ?_) 16 (by simp only [gx]; rfl) hHeld (.inl ⟨by rfl, ?_⟩) ?_; rotate_left; (focus (intro w k; (try dsimp only at k); go_simp; all_goals with_reducible rfl)); (try simp only [Act.put, px]))
     (refine wpAnyH_done (by kernel_rfl) ?_ _)
     go_upto_region 8 with fail
     refine wp_name fun w9 hw9 => ?_
     have hF9 : Fr NoB w8 w9 := by rw [hw9]; (repeat (first | exact Fr.refl _ _ | refine Fr.alloc ?_ _ | refine Fr.setNew ?_ (by omega) _ _ | refine Fr.drewN ?_ _ | refine Fr.drew ?_))
     have c0 := cell_fr' hF9 c0 nB
     have c1 := cell_fr' hF9 c1 nB
     clear hw9;have HF9 := zh (HF8.out.trans hF9)
     have HTA := zh (new_node w9 ⟨l, b⟩ bl br T0 T1 224 (HT0.out.keep0 hF9) (HT1.out.keep0 hF9))
     clear hF9;go_wp2
     go_ret
     exact ⟨_, rfl, by rw [HJ.out]; exact HTA.out, HF9.out.alloc _⟩
   | false =>
    have HL0 := zh hl0;have HJ : Hid (Tb.join ⟨l, b⟩ T0 T1 = .node ⟨l, b⟩ T0 T1) := by show Tb.join ⟨l, b⟩ T0 T1 = .node ⟨l, b⟩ T0 T1; unfold Tb.join; rw [if_neg (fun h => by rw [hl0] at h; cases h.1)]
    clear hl0;go_upto_region 6 with fail
    (refine wp_region_held_drew (S := (fun W => W.cell? ⟨bl, 2, none⟩ = some (.int .i64 T0.hop0) ∧ W.cell? ⟨br, 2, none⟩ = some (.int .i64 T1.hop0))) (by kernel_rfl) ⟨h0, h1⟩ (fun hHeld => ?_))
    (refine tk (v := ?_) 0 (by simp only [gx]; rfl) hHeld (.inl ⟨by rfl, ?_⟩) ?_; rotate_left; (focus (intro w k; (try dsimp only at k); go_simp; all_goals with_reducible rfl)); (try simp only [Act.put, px]))
    (refine wpAnyH_ready (rs := [1]) (by kernel_rfl) (by simp) ?_; refine AllReadyH.cons (by simp only [gx]; rfl) (fun K hK => ?_) AllReadyH.nil; go_simp); (refine (Leaf_any T0 bl _ HTD0.out).mono ?_; rw [HL0.out]; rintro e w9 ⟨rfl, rfl⟩); (try go_wp2_with fail); (refine hK.out _ _ ⟨h0, h1⟩ (fun hHeld => ?_)); clear hK K; (try simp only [Act.put, px])
    (refine tk (v := ?_) 2 (by simp only [gx]; rfl) hHeld (.inl ⟨by rfl, ?_⟩) ?_; rotate_left; (focus (intro w k; (try dsimp only at k); go_simp; all_goals with_reducible rfl)); (try simp only [Act.put, px])); (refine tk (v := undef) 3 (by simp only [gx]; rfl) hHeld (.inr ⟨by rfl, rfl⟩) ?_; (try simp only [Act.put, px])); (refine tk (v := undef) 4 (by simp only [gx]; rfl) hHeld (.inr ⟨by rfl, rfl⟩) ?_; (try simp only [Act.put, px])); (refine tk (v := ?_) 5 (by simp only [gx]; rfl) hHeld (.inl ⟨by rfl, ?_⟩) ?_; rotate_left; (focus (intro w k; (try dsimp only at k); go_simp; all_goals with_reducible rfl)); (try simp only [Act.put, px])); (refine tk (v := ?_) 6 (by simp only [gx]; rfl) hHeld (.inl ⟨by rfl, ?_⟩) ?_; rotate_left; (focus (intro w k; (try dsimp only at k); go_simp; all_goals with_reducible rfl)); (try simp only [Act.put, px])); (refine tk (v := undef) 7 (by simp only [gx]; rfl) hHeld (.inr ⟨by rfl, rfl⟩) ?_; (try simp only [Act.put, px])); (refine tk (v := undef) 8 (by simp only [gx]; rfl) hHeld (.inr ⟨by rfl, rfl⟩) ?_; (try simp only [Act.put, px])); (refine tk (v := undef) 9 (by simp only [gx]; rfl) hHeld (.inr ⟨by rfl, rfl⟩) ?_; (try simp only [Act.put, px])); (refine tk (v := undef) 10 (by simp only [gx]; rfl) hHeld (.inr ⟨by rfl, rfl⟩) ?_; (try simp only [Act.put, px])); (refine tk (v := undef) 11 (by simp only [gx]; rfl) hHeld (.inr ⟨by rfl, rfl⟩) ?_; (try simp only [Act.put, px])); (refine tk (v := undef) 12 (by simp only [gx]; rfl) hHeld (.inr ⟨by rfl, rfl⟩) ?_; (try simp only [Act.put, px])); (refine tk (v := undef) 13 (by simp only [gx]; rfl) hHeld (.inr ⟨by rfl, rfl⟩) ?_; (try simp only [Act.put, px])); (refine tk (v := undef) 14 (by simp only [gx]; rfl) hHeld (.inr ⟨by rfl, rfl⟩) ?_; (try simp only [Act.put, px])); (refine tk (v := undef) 15 (by simp only [gx]; rfl) hHeld (.inr ⟨by rfl, rfl⟩) ?_; (try simp only [Act.put, px])); (refine tk (v := ?_) 16 (by simp only [gx]; rfl) hHeld (.inl ⟨by rfl, ?_⟩) ?_; rotate_left; (focus (intro w k; (try dsimp only at k); go_simp; all_goals with_reducible rfl)); (try simp only [Act.put, px]))
    (refine wpAnyH_done (by kernel_rfl) ?_ _)
    go_upto_region 8 with fail
    refine wp_name fun w9 hw9 => ?_
    have hF9 : Fr NoB w8 w9 := by rw [hw9]; (repeat (first | exact Fr.refl _ _ | refine Fr.alloc ?_ _ | refine Fr.setNew ?_ (by omega) _ _ | refine Fr.drewN ?_ _ | refine Fr.drew ?_))
    have c0 := cell_fr' hF9 c0 nB
    have c1 := cell_fr' hF9 c1 nB
    clear hw9;have HF9 := zh (HF8.out.trans hF9)
    have HTA := zh (new_node w9 ⟨l, b⟩ bl br T0 T1 224 (HT0.out.keep0 hF9) (HT1.out.keep0 hF9))
    clear hF9;go_wp2
    go_ret
    exact ⟨_, rfl, by rw [HJ.out]; exact HTA.out, HF9.out.alloc _⟩
theorem of_any : ∀ d, OfSaid d
 | 0 => of_zero
 | d + 1 => of_succ d (of_any d)
theorem allOf_get (L : List Tb.Rt) {n : Nat} (h : n < 256) : (Tb.allOf L).getD n 0 = Tb.look L n := by
 unfold Tb.allOf
 rw [List.getD_eq_getElem?_getD, List.getElem?_map, List.getElem?_range h]
 rfl
theorem rdl_row {w : World} {g : Nat} {hs : List Int} {f : Nat → Int} (h : w.rowIs g 3 256 (I f)) (hl : hs.length = 256) (hf : ∀ n, n < 256 → hs.getD n 0 = f n) : RdL w (some ⟨g, 0, none⟩) hs := by
 intro k hk
 rw [hl] at hk
 obtain ⟨b, o, e, c⟩ := Rd.row h k hk
 exact ⟨b, o, e, by dsimp only; rw [hf k hk]; exact c⟩
theorem fit_all {hs : List Int} (hl : hs.length = 256) : Tb.Fit 8 ⟨0, 0⟩ hs := ⟨by decide, by decide, by rw [hl]; decide⟩
theorem TOf_any (t : Nat) (v : Value) (L : List Tb.Rt) (w : World) (hl : L.length ≤ 1000) (hw : Tb.Wf L) (h : TAt w t v L) :
  Calls Tryz.prog 117 #[.pointer (some ⟨t, 0, none⟩)] w (OfTPost (Tb.mkT 8 ⟨0, 0⟩ (Tb.allOf L)) w) := by
 obtain ⟨a, c, rfl, hr, _, hc⟩ := h.shape
 have HR := zh hr; clear hr; have HW := zh hw; clear hw
 clear h
 go_enter Tryz.func117, Tryz.ntmps117
 go_wp2_with fail
 refine (All_any t a c L _ hl HW.out HR.out hc).mono ?_
 rintro e w1 ⟨g, rfl, _, hrow, hf⟩
 have hrd := rdl_row (hs := Tb.allOf L) hrow (Tb.allOf_len L) (fun n hn => allOf_get L hn)
 have hof := of_any 8 0 0 (Tb.allOf L) (some ⟨g, 0, none⟩) 256 w1 (fit_all (Tb.allOf_len L)) hrd (by rw [Tb.allOf_len]; omega) (by omega)
 rw [Tb.allOf_len] at hof
 generalize Tb.mkT 8 ⟨0, 0⟩ (Tb.allOf L) = T at *
 have HOF := zh hof; clear hof; have HF := zh hf; clear hf
 clear hrow hrd
 go_wp2_with fail
 refine HOF.out.mono ?_
 rintro e w2 ⟨b, rfl, ht, hf⟩
 have HT := zh ht
 have HF2 := zh (HF.out.trans hf)
 clear ht hf
 go_wp2
 go_ret
 exact ⟨b, rfl, HT.out, HF2.out⟩
def LvPost (R : List Tb.Rt) (w : World) (e : Ending) (w' : World) : Prop := ∃ v, e = .returned v ∧ SlR w' w.heap.size v R ∧ Fr NoB w w'
end Go.Proofs.YtffoilacaffdgaaGreatDoor
namespace Go.Proofs.YtffoilacaffdgaaGreatDoor.Tb
def stepC (L : List Rt) (c : Ch) : List Rt × Int := if get L c.p ≠ c.old then (L, 11) else (setL L c.p c.new, setC L c.p c.new)
def pass (away : Bool) : List Ch → List Rt → List Rt × Int
 | [], L => (L, 0)
 | c :: r, L => if (decide (c.new = -2) != away) = true then pass away r L else if (stepC L c).2 ≠ 0 then stepC L c else pass away r (stepC L c).1
def done (c : List Ch) (L : List Rt) : List Rt × Int := if (pass true c L).2 ≠ 0 then pass true c L else pass false c (pass true c L).1
def wshT : Tr → Int → Bool
 | .leaf _ x => fun h => h == x
 | .node _ l r => mix (wshT l) (wshT r)
def HopT : Tr → Prop
 | .leaf _ x => hopOK x
 | .node _ l r => HopT l ∧ HopT r
theorem wshT_wish : ∀ T, HopT T → Wish (wshT T)
 | .leaf _ x, h => ⟨fun k hk => by
   have e : k = x := by simpa [wshT] using hk
   rw [e]; exact h, x, by simp [wshT]⟩
 | .node _ l r, h => (wshT_wish l h.1).mix (wshT_wish r h.2)
theorem mkT_hop : ∀ (d : Nat) (p : Pf) (hs : List Int), Fit d p hs → HopsOK hs → HopT (mkT d p hs) ∧ wshT (mkT d p hs) = wsh d hs
 | 0, p, hs, hf, hh => ⟨hh 0 hf.pos, rfl⟩
 | d + 1, p, hs, hf, hh => by
  by_cases ha : alike hs
  ·rw [(mkT_alike (d + 1) p hs hf).2 ha, (wsh_alike (d + 1) p hs hf hh ha).1];exact ⟨hh 0 hf.pos, rfl⟩
  rw [mkT_node hf ha];obtain ⟨a1, a2⟩ := mkT_hop d _ _ hf.low hh.low
  obtain ⟨b1, b2⟩ := mkT_hop d _ _ hf.high hh.high
  refine ⟨⟨a1, b1⟩, ?_⟩
  show mix _ _ = mix _ _
  rw [a2, b2]
def W (f : Int → Bool) : List Int := hops7.filter f
theorem W_mem {f : Int → Bool} (hf : Wish f) {h : Int} : h ∈ W f ↔ f h = true := by
 unfold W
 rw [List.mem_filter]
 exact ⟨fun k => k.2, fun k => ⟨mem7.2 (hf.1 h k), k⟩⟩
theorem W_sorted (f : Int → Bool) : (W f).Pairwise (· < ·) := List.Pairwise.filter f (by unfold hops7; decide)
theorem W_leaf {x : Int} (h : hopOK x) : W (fun k => k == x) = [x] := by
 unfold hopOK at h
 have : x = -1 ∨ x = 0 ∨ x = 1 ∨ x = 2 ∨ x = 3 ∨ x = 4 ∨ x = 5 := by omega
 rcases this with rfl | rfl | rfl | rfl | rfl | rfl | rfl <;> decide
theorem W_len (f : Int → Bool) : (W f).length ≤ 7 := List.length_filter_le _ _
theorem W_pos {f : Int → Bool} (hf : Wish f) : 0 < (W f).length := by
 obtain ⟨h, hh⟩ := hf.2
 exact List.length_pos_of_mem ((W_mem hf).2 hh)
theorem W_head {f : Int → Bool} : (W f).getD 0 0 = fstW f := by
 unfold fstW W
 cases hops7.filter f <;> rfl
def common (A B : List Int) : List Int := A.filter fun h => B.contains h
theorem common_snoc (A B : List Int) (x : Int) : common (A ++ [x]) B = common A B ++ if B.contains x then [x] else [] := by
 unfold common
 rw [List.filter_append]
 congr 1
 by_cases h : B.contains x = true
 ·rw [if_pos h, List.filter_cons_of_pos h]; rfl
 rw [if_neg h, List.filter_cons_of_neg h]; rfl
theorem common_W {a b : Int → Bool} (_ : Wish a) (hb : Wish b) : common (W a) (W b) = W (fun h => a h && b h) := by
 unfold common
 have e : ∀ h, (W b).contains h = b h := fun h => by
  rw [Bool.eq_iff_iff, List.contains_iff_mem, W_mem hb]
 have e2 : (fun h => (W b).contains h) = b := funext e
 rw [e2]
 unfold W
 rw [List.filter_filter]
 congr 1
 funext h
 exact Bool.and_comm _ _
theorem common_empty {a b : Int → Bool} (ha : Wish a) (hb : Wish b) : common (W a) (W b) = [] ↔ ¬ both a b = true := by
 rw [common_W ha hb]
 unfold W
 rw [List.filter_eq_nil_iff]
 unfold both
 rw [List.any_eq_true]
 constructor
 ·rintro h ⟨x, hx, k⟩
  exact h x hx k
 intro h x hx k
 exact h ⟨x, hx, k⟩
theorem mix_common {a b : Int → Bool} (ha : Wish a) (hb : Wish b) (h : common (W a) (W b) ≠ []) : common (W a) (W b) = W (mix a b) := by
 have hb' : both a b = true := Classical.byContradiction fun k => h ((common_empty ha hb).2 k)
 rw [common_W ha hb]
 congr 1
 funext x
 unfold mix
 rw [if_pos hb']
theorem int_sorted_ext : ∀ l m : List Int, l.Pairwise (· < ·) → m.Pairwise (· < ·) → (∀ x, x ∈ l ↔ x ∈ m) → l = m
 | [], [], _, _, _ => rfl
 | [], y :: m, _, _, h => by have := (h y).2 (List.mem_cons_self ..); cases this
 | x :: l, [], _, _, h => by have := (h x).1 (List.mem_cons_self ..); cases this
 | x :: l, y :: m, hl, hm, h => by
  obtain ⟨l1, l2⟩ := List.pairwise_cons.1 hl
  obtain ⟨m1, m2⟩ := List.pairwise_cons.1 hm
  have e : x = y := by
   rcases List.mem_cons.1 ((h x).1 (List.mem_cons_self ..)) with e | e
   ·exact e
   rcases List.mem_cons.1 ((h y).2 (List.mem_cons_self ..)) with k | k
   ·exact k.symm
   have := m1 x e; have := l1 y k; omega
  subst e;congr 1
  refine int_sorted_ext l m l2 m2 (fun z => ⟨fun hz => ?_, fun hz => ?_⟩)
  ·rcases List.mem_cons.1 ((h z).1 (List.mem_cons_of_mem _ hz)) with e | e
   ·subst e; have := l1 z hz; omega
   exact e
  rcases List.mem_cons.1 ((h z).2 (List.mem_cons_of_mem _ hz)) with e | e
  ·subst e; have := m1 z hz; omega
  exact e
theorem mix_union {a b : Int → Bool} (ha : Wish a) (hb : Wish b) (h : common (W a) (W b) = []) {l : List Int} (hp : l.Perm (W a ++ W b)) (hs : l.Pairwise (· ≤ ·)) : l = W (mix a b) := by
 have hn := (common_empty ha hb).1 h
 have hm : ∀ x, mix a b x = (a x || b x) := fun x => by unfold mix; rw [if_neg hn]
 have hnd : l.Nodup := by
  rw [hp.nodup_iff, List.nodup_append];refine ⟨(W_sorted a).imp (fun {x y} k e => by omega), (W_sorted b).imp (fun {x y} k e => by omega), fun x hx y hy e => ?_⟩
  subst e;exact hn (both_iff.2 ⟨x, ha.1 x ((W_mem ha).1 hx), (W_mem ha).1 hx, (W_mem hb).1 hy⟩)
 refine int_sorted_ext l _ ?_ (W_sorted _) (fun x => ?_)
 ·exact (hs.and hnd).imp (fun {x y} k => by have := k.1; have := k.2; omega)
 rw [hp.mem_iff, List.mem_append, W_mem ha, W_mem hb, W_mem (ha.mix hb), hm, Bool.or_eq_true]
def layT : Tr → Int → List Rt
 | .leaf p x, h => made (wshT (.leaf p x)) p h
 | .node p l r, h => made (wshT (.node p l r)) p h ++ (layT l (pick (wshT (.node p l r)) h) ++ layT r (pick (wshT (.node p l r)) h))
theorem layT_mk : ∀ (d : Nat) (p : Pf) (hs : List Int) (h : Int), Fit d p hs → HopsOK hs → layT (mkT d p hs) h = least d p hs h
 | 0, _, _, _, _, _ => rfl
 | d + 1, p, hs, h, hf, hh => by
  have hw := (mkT_hop (d + 1) p hs hf hh).2
  unfold least;by_cases ha : alike hs
  ·rw [if_pos ha, List.append_nil];rw [(mkT_alike (d + 1) p hs hf).2 ha] at hw ⊢
   show made (wshT _) p h = _
   rw [hw]
  rw [if_neg ha];rw [mkT_node hf ha] at hw ⊢
  show made (wshT _) p h ++ (layT _ (pick (wshT _) h) ++ layT _ (pick (wshT _) h)) = _
  rw [hw, layT_mk d _ _ _ hf.low hh.low, layT_mk d _ _ _ hf.high hh.high]
theorem layT_len : ∀ (T : Tr) (h : Int), (layT T h).length + 1 ≤ 2 * (leaves T).length
 | .leaf p x, h => by
  show (made _ p h).length + 1 ≤ 2 * 1
  rw [made_len];have := no_le (wshT (.leaf p x)) h
  omega
 | .node p l r, h => by
  show (made _ p h ++ (layT l _ ++ layT r _)).length + 1 ≤ 2 * (leaves l ++ leaves r).length
  rw [List.length_append, List.length_append, List.length_append, made_len];have := no_le (wshT (.node p l r)) h
  have := layT_len l (pick (wshT (.node p l r)) h)
  have := layT_len r (pick (wshT (.node p l r)) h)
  omega
theorem few_layT {L : List Rt} (hw : Wf L) : layT (mkT 8 ⟨0, 0⟩ (allOf L)) (-1) = few L := layT_mk 8 _ _ _ (fit_allOf L) (allOf_hops hw)
theorem lv_le : ∀ (d : Nat) (p : Pf) (hs : List Int), Fit d p hs → (lv d p hs).length ≤ hs.length
 | 0, _, _, h => by have := h.pos; simp [lv]; omega
 | d + 1, p, hs, h => by
  unfold lv;split
  ·have := h.pos; simp; omega
  have a := lv_le d _ _ h.low
  have b := lv_le d _ _ h.high
  rw [lowH_len] at a;rw [highH_len] at b
  rw [List.length_append];omega
theorem few_512 {L : List Rt} (hw : Wf L) : (few L).length ≤ 511 := by
 have h1 := layT_len (mkT 8 ⟨0, 0⟩ (allOf L)) (-1)
 rw [few_layT hw, mkT_leaves 8 _ _ (fit_allOf L)] at h1
 have h2 := lv_le 8 _ _ (fit_allOf L)
 rw [allOf_len] at h2
 omega
end Go.Proofs.YtffoilacaffdgaaGreatDoor.Tb
namespace Go.Proofs
open Go.Shelf
def Tryz.lays189_ren : Go.Shelf.Ren := ⟨fun | 189 => 176 | 125 => 190 | 257 => 189 | 128 => 202 | 129 => 180 | 294 => 193 | 295 => 194 | 296 => 195 | 297 => 196 | 298 => 197 | 299 => 198 | 216 => 199 | 300 => 200 | 301 => 201 | 328 => 203 | 329 => 204 | 330 => 205 | 331 => 206 | 332 => 207 | 215 => 208 | 343 => 209 | n => n, fun | 28 => 76 | 3 => 3 | 46 => 37 | 0 => 0 | 51 => 178 | 53 => 202 | 4 => 4 | 183 => 261 | 182 => 260 | 131 => 185 | 5 => 5 | 9 => 9 | 218 => 268 | 222 => 272 | 228 => 274 | 229 => 275 | n => n, fun | n => n⟩
theorem Tryz.lays189 : Go.Proofs.Lays.n189 Tryz.prog Tryz.lays189_ren := {
 mixed := by kernel_rfl
 f125 := Tryz.func190.trans (congrArg some (by kernel_rfl))
 f128 := Tryz.func202.trans (congrArg some (by kernel_rfl))
 f129 := Tryz.func180.trans (congrArg some (by kernel_rfl))
 f189 := Tryz.func176.trans (congrArg some (by kernel_rfl))
 f215 := Tryz.func208.trans (congrArg some (by kernel_rfl))
 f216 := Tryz.func199.trans (congrArg some (by kernel_rfl))
 f257 := Tryz.func189.trans (congrArg some (by kernel_rfl))
 f294 := Tryz.func193.trans (congrArg some (by kernel_rfl))
 f295 := Tryz.func194.trans (congrArg some (by kernel_rfl))
 f296 := Tryz.func195.trans (congrArg some (by kernel_rfl))
 f297 := Tryz.func196.trans (congrArg some (by kernel_rfl))
 f298 := Tryz.func197.trans (congrArg some (by kernel_rfl))
 f299 := Tryz.func198.trans (congrArg some (by kernel_rfl))
 f300 := Tryz.func200.trans (congrArg some (by kernel_rfl))
 f301 := Tryz.func201.trans (congrArg some (by kernel_rfl))
 f328 := Tryz.func203.trans (congrArg some (by kernel_rfl))
 f329 := Tryz.func204.trans (congrArg some (by kernel_rfl))
 f330 := Tryz.func205.trans (congrArg some (by kernel_rfl))
 f331 := Tryz.func206.trans (congrArg some (by kernel_rfl))
 f332 := Tryz.func207.trans (congrArg some (by kernel_rfl))
 f343 := Tryz.func209.trans (congrArg some (by kernel_rfl))
 t0 := Tryz.underlying0
 a0 := Tryz.isAgg0
 z0 := Tryz.sizeOf0
 v0 := Tryz.zeroValue0
 t3 := Tryz.underlying3
 a3 := Tryz.isAgg3
 z3 := Tryz.sizeOf3
 v3 := Tryz.zeroValue3
 t4 := Tryz.underlying4
 a4 := Tryz.isAgg4
 z4 := Tryz.sizeOf4
 v4 := Tryz.zeroValue4
 t5 := Tryz.underlying5
 a5 := Tryz.isAgg5
 z5 := Tryz.sizeOf5
 v5 := Tryz.zeroValue5
 t9 := Tryz.underlying9
 a9 := Tryz.isAgg9
 z9 := Tryz.sizeOf9
 v9 := Tryz.zeroValue9
 t28 := Tryz.underlying76
 a28 := Tryz.isAgg76
 z28 := Tryz.sizeOf76
 v28 := Tryz.zeroValue76
 t46 := Tryz.underlying37
 a46 := Tryz.isAgg37
 z46 := Tryz.sizeOf37
 v46 := Tryz.zeroValue37
 t51 := Tryz.underlying178
 a51 := Tryz.isAgg178
 z51 := Tryz.sizeOf178
 v51 := Tryz.zeroValue178
 t53 := Tryz.underlying202
 a53 := Tryz.isAgg202
 z53 := Tryz.sizeOf202
 v53 := Tryz.zeroValue202
 t131 := Tryz.underlying185
 a131 := Tryz.isAgg185
 z131 := Tryz.sizeOf185
 v131 := Tryz.zeroValue185
 t182 := Tryz.underlying260
 a182 := Tryz.isAgg260
 z182 := Tryz.sizeOf260
 v182 := Tryz.zeroValue260
 t183 := Tryz.underlying261
 a183 := Tryz.isAgg261
 z183 := Tryz.sizeOf261
 v183 := Tryz.zeroValue261
 t218 := Tryz.underlying268
 a218 := Tryz.isAgg268
 z218 := Tryz.sizeOf268
 v218 := Tryz.zeroValue268
 t222 := Tryz.underlying272
 a222 := Tryz.isAgg272
 z222 := Tryz.sizeOf272
 v222 := Tryz.zeroValue272
 t228 := Tryz.underlying274
 a228 := Tryz.isAgg274
 z228 := Tryz.sizeOf274
 v228 := Tryz.zeroValue274
 t229 := Tryz.underlying275
 a229 := Tryz.isAgg275
 z229 := Tryz.sizeOf275
 v229 := Tryz.zeroValue275 }
open Go.Sort Go.RowKit in
theorem Tryz.slices_Sort_int (blk off cap : Nat) (zs : List Int) (w : World) (hH : Holds (Value.int .i64) w blk off zs.toArray) (hblk : blk < w.heap.size) (hsz : zs.length < 4611686018427387904) :
  Calls Tryz.prog 176 #[.slice (some ⟨blk, off, none⟩) zs.length cap] w fun e w' =>
   e = .returned (.tuple #[]) ∧ ∃ n os, w' = grow (putRow (Value.int .i64) (Sort.ahead w n) blk off (zs.mergeSort fun x y => decide (x ≤ y)).toArray) os := Any.slices_Sort_int Tryz.lays189 blk off cap zs w hH hblk hsz
end Go.Proofs
namespace Go.Proofs.YtffoilacaffdgaaGreatDoor
open Go.RowKit Go.Deep Go.Sort
theorem LsShelf.sort_ints (blk off cap : Nat) (zs : List Int) (w : World) (hH : Holds (Value.int .i64) w blk off zs.toArray) (hblk : blk < w.heap.size) (hsz : zs.length < 4611686018427387904) :
  Calls Tryz.prog 176 #[.slice (some ⟨blk, off, none⟩) zs.length cap] w fun e w' =>
   e = .returned (.tuple #[]) ∧ ∃ n os, w' = grow (putRow (Value.int .i64) (Sort.ahead w n) blk off (zs.mergeSort fun x y => decide (x ≤ y)).toArray) os := Tryz.slices_Sort_int blk off cap zs w hH hblk hsz
end Go.Proofs.YtffoilacaffdgaaGreatDoor
namespace Go.Proofs.YtffoilacaffdgaaGreatDoor
open Go.RowKit Go.Deep
def CloneIPost (xs : List Int) (w : World) (e : Ending) (w' : World) : Prop := ∃ v, e = .returned v ∧ Sl w' w.heap.size v xs ∧ Fr NoB w w'
theorem Sl.any1 {w : World} {base : Nat} {v : Value} {xs : List Int} (h : Sl w base v xs) (hp : 0 < xs.length) : ∃ g c, v = .slice (some ⟨g, 0, none⟩) xs.length c ∧ base ≤ g ∧ g < w.heap.size ∧ ∀ i, i < xs.length → w.cell? ⟨g, i, none⟩ = some (.int .i64 (xs.getD i 0)) := by
 rcases h.shape with ⟨_, rfl⟩ | ⟨g, c, h1, h2, h3, h4⟩
 ·cases hp
 exact ⟨g, c, h1, h2, h3, h4⟩
theorem ints_news {w : World} {g : Nat} {xs : List Int} (h : ∀ i, i < xs.length → w.cell? ⟨g, i, none⟩ = some (.int .i64 (xs.getD i 0))) : ∀ (j : Nat) (u : Value), (xs.map (Value.int .i64))[j]? = some u → w.cell? ((⟨g, 0, none⟩ : Addr).add j) = some u := by
 intro j u hj
 rw [List.getElem?_map] at hj
 obtain ⟨x, hx, rfl⟩ := Option.map_eq_some_iff.1 hj
 have hl := (List.getElem?_eq_some_iff.1 hx).1
 rw [add_base, h j hl, List.getD_eq_getElem?_getD, hx]
 rfl
theorem CloneI_any (base : Nat) (v : Value) (xs : List Int) (w : World) (hl : xs.length ≤ 1000) (hp : 0 < xs.length) (h : Sl w base v xs) :
  Calls Tryz.prog 175 #[v] w (CloneIPost xs w) := by
 obtain ⟨g, c, rfl, _, _, hc⟩ := h.any1 hp
 have hF := (Fr.refl NoB w).alloc (.cells #[] 3)
 have hN : ∀ (j : Nat) (u : Value), (xs.map (Value.int .i64))[j]? = some u → (w.alloc (.cells #[] 3)).cell? ((⟨g, 0, none⟩ : Addr).add j) = some u := ints_news (fun i hi => cell_fr' hF (hc i hi) (fun h => h))
 have hown : (w.alloc (.cells #[] 3)).ownsRow w.heap.size 3 1 (.slice (some ⟨w.heap.size, 0, none⟩) 0 0) 0 [] := row_own (f := fun _ => .int .i64 0) (cap := 0) (World.rowIs_alloc w #[] 3 _ (by intro i hi; simp at hi)) (Nat.le_refl _) (Nat.le_refl _) (by unfold maxLen; omega) rfl (by intro k hk; omega)
 have hll : (xs.map (Value.int .i64)).length = xs.length * 1 := by rw [List.length_map, Nat.mul_one]
 have hq := fun w => Lib.run_eql_slice_nil (P := Tryz.prog) w 76 3 (some ⟨g, 0, none⟩) xs.length c 0 0 Tryz.underlying76
 dsimp only [Option.isNone] at hq
 have HN := zh hN; clear hN; have HO := zh hown; clear hown; have HL := zh hll; clear hll
 clear h hF hc
 go_enter Tryz.func175, Tryz.ntmps175
 go_wp2_with (at_builtin; refine app_own rfl _ _ 76 3 1 8 _ rfl Tryz.underlying76 Tryz.info3 rfl (by omega) w.heap.size (.slice (some ⟨w.heap.size, 0, none⟩) 0 0) 0 [] rfl HO.out ⟨g, 0, none⟩ xs.length c (xs.map (Value.int .i64)) rfl HL.out HN.out (ints_one _) (by omega) (by omega) (by simp) ?_; intro v' w1 hv hf)
 go_ret
 refine ⟨v', rfl, ?_, ?_⟩
 ·have hv := hv
  rw [Nat.zero_add, List.nil_append] at hv;exact hv
 exact ((Fr.refl NoB w).alloc _).trans' hf (fun i hi h => by cases h; exact absurd hi (Nat.lt_irrefl _))
theorem heap_sort {w : World} {blk off n : Nat} {d : Array Int} {os : Array Obj} : Fr (fun i => i = blk) w (Go.Sort.grow (Go.Sort.putRow (Value.int .i64) (Go.Sort.ahead w n) blk off d) os) := by
 refine ⟨rfl, rfl, rfl, by simp, fun k hk hne => ?_⟩
 rw [Go.Sort.heap_grow_old _ _ (by simpa using hk)]
 have : blk ≠ k := fun e => hne e.symm
 simp [Go.Sort.putRow, Go.Sort.mapBlock, Go.Sort.ahead, Array.getElem?_modify, this]
def SortIPost (base : Nat) (v : Value) (xs : List Int) (w : World) (e : Ending) (w' : World) : Prop := e = .returned (.tuple #[]) ∧ ∃ ys : List Int, ys.Perm xs ∧ ys.Pairwise (· ≤ ·) ∧ Sl w' base v ys ∧ Fr (fun i => v.ownBlock = some i) w w'
theorem SortI_any (base : Nat) (v : Value) (xs : List Int) (w : World) (hl : xs.length ≤ 1000) (hp : 0 < xs.length) (h : Sl w base v xs) :
  Calls Tryz.prog 176 #[v] w (SortIPost base v xs w) := by
 rcases h.2 with ⟨h1, h2⟩ | ⟨g, cap, cur, h1, h2, h3, h4, h5, h6, h7⟩
 ·omega
 subst h1
 rw [Nat.mul_one] at h7
 have hg : g < w.heap.size := (Array.getElem?_eq_some_iff.1 h3).1
 refine (LsShelf.sort_ints g 0 cap xs w (Go.holds_of_blockI h3 h7) hg (by omega)).mono ?_
 rintro e w' ⟨rfl, n, os, rfl⟩
 have hperm := List.mergeSort_perm xs (fun x y => decide (x ≤ y))
 have hsort := List.pairwise_mergeSort (le := fun x y : Int => decide (x ≤ y)) (fun a b c h1 h2 => by simp at *; omega) (fun a b => by simp; omega) xs
 refine ⟨rfl, _, hperm, hsort.imp (fun {a b} k => by simpa using k), ?_, ?_⟩
 ·have hlen : (xs.mergeSort fun x y => decide (x ≤ y)).length = xs.length := hperm.length_eq
  have := Go.ownsRow_sortedI (n := n) (os := os) hlen h2 h3 h4 h5 h6
  unfold Sl;rw [hlen]
  exact this
 exact (heap_sort (w := w) (n := n) (os := os)).mono (fun i _ hi => by rw [hi]; rfl)
def WishPost (T : Tb.Tr) (w : World) (e : Ending) (w' : World) : Prop := ∃ v, e = .returned v ∧ Sl w' w.heap.size v (Tb.W (Tb.wshT T)) ∧ Fr NoB w w'
def WishSaid (T : Tb.Tr) : Prop := ∀ (b : Nat) (w : World), TrAt w T b → Tb.HopT T → Calls Tryz.prog 147 #[.pointer (some ⟨b, 0, none⟩)] w (WishPost T w)
theorem one_int (w : World) (x : Int) : Sl (w.alloc (.cells #[.int .i64 x] 3)) w.heap.size (.slice (some ⟨w.heap.size, 0, none⟩) 1 1) [x] :=
 row_own (f := fun _ => .int .i64 x) (World.rowIs_alloc w #[.int .i64 x] 3 _ (by intro i hi; simp at hi; subst hi; rfl)) (Nat.le_refl _) (Nat.le_refl _) (by unfold maxLen; omega) rfl (fun k hk => by
  have : k = 0 := by omega
  subst this;rfl)
theorem Sl.base {w : World} {b1 b2 : Nat} {v : Value} {xs : List Int} (h : Sl w b1 v xs) (hb : b2 ≤ b1) : Sl w b2 v xs := by
 refine ⟨h.1, ?_⟩
 rcases h.2 with h | ⟨g, cap, cur, h1, h2, h3⟩
 ·exact .inl h
 exact .inr ⟨g, cap, cur, h1, Nat.le_trans hb h2, h3⟩
theorem Sl.below {w : World} {b : Nat} {v : Value} {xs : List Int} (h : Sl w b v xs) : ∀ g, v.ownBlock = some g → g < w.heap.size := fun g hg => (oL h g hg).2
theorem wish_leaf (p : Tb.Pf) (x : Int) : WishSaid (.leaf p x) := by
 intro b w ht hh
 obtain ⟨c0, c1, c2⟩ := ht.c01
 have e : Tb.W (Tb.wshT (.leaf p x)) = [x] := Tb.W_leaf hh
 have HE := zh e
 have HT := zh ht
 clear ht e hh
 dsimp only [Tb.Tr.root, Tb.Tr.hop0] at c0 c1 c2
 go_enter Tryz.func147, Tryz.ntmps147
 go_wp2_with fail
 refine (Leaf_any _ b _ HT.out).mono ?_
 rintro e w1 ⟨rfl, rfl⟩
 dsimp only [Tb.Tr.isLeaf]
 go_wp2
 go_ret
 refine ⟨_, rfl, ?_, (Fr.refl _ _).alloc _⟩
 rw [HE.out]
 exact one_int w x
def WiRel (A B : List Int) (v0 v1 : Value) (N : Nat) (w : World) (v i : Value) (wr : World) : Prop :=
 ∃ k : Nat, k ≤ A.length ∧ i = .int .i64 k ∧ Hid (Sl wr N v (Tb.common (A.take k) B)) ∧ Hid (Sl wr w.heap.size v0 A) ∧ Hid (Sl wr w.heap.size v1 B) ∧ Hid (Fr NoB w wr) ∧ Hid (N ≤ wr.heap.size)
theorem take_getD {A : List Int} {k : Nat} (h : k < A.length) : A.take (k + 1) = A.take k ++ [A.getD k 0] := by
 rw [List.take_succ_eq_append_getElem h, List.getD_eq_getElem?_getD, List.getElem?_eq_getElem h]
 rfl
theorem Fr.newer {a w w' : World} {N : Nat} (h : Fr NoB a w) (hN : a.heap.size ≤ N) (k : Fr (fun i => N ≤ i) w w') : Fr NoB a w' := h.trans' k (fun i hi hi' => by omega)
theorem wish_node (p : Tb.Pf) (tl tr : Tb.Tr) (IHL : WishSaid tl) (IHR : WishSaid tr) : WishSaid (.node p tl tr) := by
 intro b w ht hh
 have hlf := Leaf_any _ b _ ht
 obtain ⟨bl, br, hn, hl, hr⟩ := ht
 have c3 := hn.c3
 have c4 := hn.c4
 have ihl := fun W (hW : Fr NoB w W) => IHL bl W (hl.keep0 hW) hh.1
 have ihr := fun W (hW : Fr NoB w W) => IHR br W (hr.keep0 hW) hh.2
 have wl := Tb.wshT_wish tl hh.1
 have wr := Tb.wshT_wish tr hh.2
 show Calls Tryz.prog 147 _ w (fun e w' => ∃ v, e = .returned v ∧ Sl w' w.heap.size v (Tb.W (Tb.mix (Tb.wshT tl) (Tb.wshT tr))) ∧ Fr NoB w w')
 unfold WishPost at ihl ihr
 have hpa := Tb.W_pos wl
 have hpb := Tb.W_pos wr
 have hla := Tb.W_len (Tb.wshT tl)
 have hlb := Tb.W_len (Tb.wshT tr)
 have hm1 := Tb.mix_common wl wr
 have hm2 := fun h l => Tb.mix_union wl wr h (l := l)
 generalize Tb.W (Tb.mix (Tb.wshT tl) (Tb.wshT tr)) = M at *
 generalize Tb.W (Tb.wshT tl) = A at *
 generalize Tb.W (Tb.wshT tr) = B at *
 have hcl : ∀ k, (Tb.common (A.take k) B).length ≤ 7 := fun k => by
  have h1 : (Tb.common (A.take k) B).length ≤ (A.take k).length := List.length_filter_le _ _
  rw [List.length_take] at h1;omega
 have IL := zh ihl; clear ihl; have IR := zh ihr; clear ihr; have HLF := zh hlf; clear hlf; have HPA := zh hpa; clear hpa; have HPB := zh hpb; clear hpb; have HLA := zh hla; clear hla; have HLB := zh hlb; clear hlb; have HM1 := zh hm1; clear hm1; have HM2 := zh hm2; clear hm2; have HCL := zh hcl; clear hcl
 clear hn hl hr IHL IHR hh wl wr
 go_enter Tryz.func147, Tryz.ntmps147
 go_wp2_with fail
 refine HLF.out.mono ?_
 rintro e w1 ⟨rfl, rfl⟩
 dsimp only [Tb.Tr.isLeaf]
 go_upto_region 3 with fail
 have HD := zh (Fr.drew (Fr.refl NoB w))
 (refine wp_region_held_drew (S := (fun W => W.cell? ⟨b, 3, none⟩ = some (.pointer (some ⟨bl, 0, none⟩)) ∧ W.cell? ⟨b, 4, none⟩ = some (.pointer (some ⟨br, 0, none⟩)))) (by kernel_rfl) ⟨c3, c4⟩ (fun hHeld => ?_))
 (refine tk (v := ?_) 0 (by simp only [gx]; rfl) hHeld (.inl ⟨by rfl, ?_⟩) ?_; rotate_left; (focus (intro w k; (try dsimp only at k); go_simp; all_goals with_reducible rfl)); (try simp only [Act.put, px])); (refine tk (v := ?_) 1 (by simp only [gx]; rfl) hHeld (.inl ⟨by rfl, ?_⟩) ?_; rotate_left; (focus (intro w k; (try dsimp only at k); go_simp; all_goals with_reducible rfl)); (try simp only [Act.put, px])); (refine tk (v := ?_) 2 (by simp only [gx]; rfl) hHeld (.inl ⟨by rfl, ?_⟩) ?_; rotate_left; (focus (intro w k; (try dsimp only at k); go_simp; all_goals with_reducible rfl)); (try simp only [Act.put, px])); (refine tk (v := ?_) 3 (by simp only [gx]; rfl) hHeld (.inl ⟨by rfl, ?_⟩) ?_; rotate_left; (focus (intro w k; (try dsimp only at k); go_simp; all_goals with_reducible rfl)); (try simp only [Act.put, px])); (refine tk (v := ?_) 5 (by simp only [gx]; rfl) hHeld (.inl ⟨by rfl, ?_⟩) ?_; rotate_left; (focus (intro w k; (try dsimp only at k); go_simp; all_goals with_reducible rfl)); (try simp only [Act.put, px])); (refine tk (v := ?_) 6 (by simp only [gx]; rfl) hHeld (.inl ⟨by rfl, ?_⟩) ?_; rotate_left; (focus (intro w k; (try dsimp only at k); go_simp; all_goals with_reducible rfl)); (try simp only [Act.put, px])); (refine tk (v := ?_) 7 (by simp only [gx]; rfl) hHeld (.inl ⟨by rfl, ?_⟩) ?_; rotate_left; (focus (intro w k; (try dsimp only at k); go_simp; all_goals with_reducible rfl)); (try simp only [Act.put, px])); (refine tk (v := ?_) 8 (by simp only [gx]; rfl) hHeld (.inl ⟨by rfl, ?_⟩) ?_; rotate_left; (focus (intro w k; (try dsimp only at k); go_simp; all_goals with_reducible rfl)); (try simp only [Act.put, px]))
 (refine wpAnyH_ready (rs := [4]) (by kernel_rfl) (by simp) ?_; refine AllReadyH.cons (by simp only [gx]; rfl) (fun K hK => ?_) AllReadyH.nil; go_simp); (refine (IL.out _ HD.out).mono ?_; rintro e w2 ⟨v0, rfl, hv0, hf⟩; replace c3 := cell_fr' hf c3 nB; replace c4 := cell_fr' hf c4 nB; have HF2 := zh (HD.out.trans hf); have HV0 := zh (Sl.base hv0 HD.out.size); clear hf hv0); (try go_wp2_with fail); (refine hK.out _ _ ⟨c3, c4⟩ (fun hHeld => ?_)); clear hK K; (try simp only [Act.put, px])
 (refine wpAnyH_ready (rs := [9]) (by kernel_rfl) (by simp) ?_; refine AllReadyH.cons (by simp only [gx]; rfl) (fun K hK => ?_) AllReadyH.nil; go_simp); (refine (IR.out _ HF2.out).mono ?_; rintro e w3 ⟨v1, rfl, hv1, hf⟩; replace c3 := cell_fr' hf c3 nB; replace c4 := cell_fr' hf c4 nB; have HF3 := zh (HF2.out.trans hf); have HV0' : Hid (Sl w3 w.heap.size v0 A) := (own_keep HV0.out hf (fun _ _ h => h)); have HV1 := zh (Sl.base hv1 HF2.out.size); clear hf hv1); (try go_wp2_with fail); (refine hK.out _ _ ⟨c3, c4⟩ (fun hHeld => ?_)); clear hK K; (try simp only [Act.put, px])
 (refine tk (v := ?_) 10 (by simp only [gx]; rfl) hHeld (.inl ⟨by rfl, ?_⟩) ?_; rotate_left; (focus (intro w k; (try dsimp only at k); go_simp; all_goals with_reducible rfl)); (try simp only [Act.put, px])); (refine tk (v := ?_) 11 (by simp only [gx]; rfl) hHeld (.inl ⟨by rfl, ?_⟩) ?_; rotate_left; (focus (intro w k; (try dsimp only at k); go_simp; all_goals with_reducible rfl)); (try simp only [Act.put, px]))
 (refine wpAnyH_done (by kernel_rfl) ?_ _)
 clear c3 c4 HV0 HD HF2 IL IR HLF
 have hb0 := HV0'.out.below
 have hb1 := HV1.out.below
 have HB0 := zh hb0; clear hb0; have HB1 := zh hb1; clear hb1
 obtain ⟨g0, q0, rfl, _, _, _⟩ := HV0'.out.any1 HPA.out
 go_wp2
 go_loopw [5, 28] (fun v i wx => WiRel A B (.slice (some ⟨g0, 0, none⟩) A.length q0) v1 w3.heap.size w v i wx) (fun _ i _ => A.length - (intOf i).toNat)
 case atStart => exact ⟨0, by omega, rfl, Sl.nil _ _, HV0'.out, HV1.out, HF3.out, Nat.le_refl _⟩
 case round =>
  obtain ⟨k, hk, rfl, hcv, ha, hb, hf, hN⟩ := hrel
  have hl7 := HLA.out
  by_cases hka : k < A.length
  ·obtain ⟨g', q', e', _, _, hcell⟩ := ha.out.any1 HPA.out
   cases e'
   have ck := hcell k hka
   have htk := take_getD hka
   have hcs := Tb.common_snoc (A.take k) B (A.getD k 0)
   rw [← htk] at hcs;generalize A.getD k 0 = x at *
   have HCS := zh hcs; clear hcs;clear hcell htk
   by_cases hx : x ∈ B
   ·have hd : decide (x ∈ B) = true := decide_eq_true hx
    have hcx : B.contains x = true := List.contains_iff_mem.2 hx
    have HD := zh hd; clear hd; have HCX := zh hcx; clear hcx;clear hx
    go_wp2_with fail;refine (Contains_any w.heap.size v1 B x _ (by have := HLB.out; omega) hb.out).mono ?_
    rw [HD.out];rintro e w4 ⟨rfl, rfl⟩
    go_wp2_with (at_builtin; go_loud (refine app_int rfl (.tmp 35) (.tmp 37) 76 rfl Tryz.underlying76 Tryz.info3 w3.heap.size u5 (Tb.common (A.take k) B) rfl (hcv.out.alloc _) ⟨wr.heap.size, 0, none⟩ x rfl (by simp) ?h1 ?h2 ?_))
    case h1 => have := HCL.out k; omega
    case h2 => have := hN.out; simp; omega
    ·intro v' w4 h1 h2;have hF4 := (Fr.refl NoB wr).alloc (.cells #[.int .i64 x] 3)
     have H1 : Hid (Sl w4 w3.heap.size v' (Tb.common (A.take (k + 1)) B)) := by show Sl _ _ _ _; rw [HCS.out, if_pos HCX.out]; exact h1
     have H2 : Hid (Sl w4 w.heap.size (.slice (some ⟨g0, 0, none⟩) A.length q0) A) := own_keep (ha.out.alloc _) h2 (fun g hg hg' => by have := HB0.out g hg; omega)
     have H3 : Hid (Sl w4 w.heap.size v1 B) := own_keep (hb.out.alloc _) h2 (fun g hg hg' => by have := HB1.out g hg; omega)
     have H4 : Hid (Fr NoB w w4) := (hf.out.alloc _).newer HF3.out.size h2
     have H5 : Hid (w3.heap.size ≤ w4.heap.size) := Nat.le_trans hN.out (Nat.le_trans hF4.size h2.size)
     clear h1 h2 hF4 ck;go_wp2
     go_roundw
     case rel => exact ⟨k + 1, by omega, by go_num, H1, H2, H3, H4, H5⟩
     case measure => simp [intOf]; omega
   have hd : decide (x ∈ B) = false := decide_eq_false hx
   have hcx : ¬ B.contains x = true := fun h => hx (List.contains_iff_mem.1 h)
   have H1 : Hid (Sl wr w3.heap.size u5 (Tb.common (A.take (k + 1)) B)) := by show Sl _ _ _ _; rw [HCS.out, if_neg hcx, List.append_nil]; exact hcv.out
   have HD := zh hd; clear hd;clear hx hcx
   go_wp2_with fail;refine (Contains_any w.heap.size v1 B x _ (by have := HLB.out; omega) hb.out).mono ?_
   rw [HD.out];rintro e w4 ⟨rfl, rfl⟩
   go_wp2;go_roundw
   case rel => exact ⟨k + 1, by omega, by go_num, H1, ha, hb, hf, hN⟩
   case measure => simp [intOf]; omega
  have hk' : k = A.length := by omega
  have hcv' : Hid (Sl wr w3.heap.size u5 (Tb.common A B)) := by have h := hcv.out; rw [hk', List.take_length] at h; exact h
  clear hcv;by_cases hz : Tb.common A B = []
  ·rw [hz] at hcv'
   have hv5 : u5 = .slice none 0 0 ∨ ∃ g c, u5 = .slice (some ⟨g, 0, none⟩) 0 c := by
    rcases hcv'.out.shape with ⟨h, _⟩ | ⟨g, c, h, _⟩
    ·exact .inl h
    exact .inr ⟨g, c, h⟩
   have HM := zh (fun l => HM2.out hz l)
   obtain ⟨q5, c5, rfl⟩ : ∃ q c, u5 = .slice q 0 c := by
    rcases hv5 with h | ⟨g, c, h⟩
    ·exact ⟨_, _, h⟩
    exact ⟨_, _, h⟩
   clear hv5 hz;go_wp2_with fail
   refine (CloneI_any w.heap.size _ A _ (by have := HLA.out; omega) HPA.out ha.out).mono ?_
   rintro e w4 ⟨v2, rfl, hv2, hf2⟩
   obtain ⟨g2, q2, rfl, hg2, _, _⟩ := hv2.any1 HPA.out
   have hB2 : Sl w4 w.heap.size v1 B := own_keep hb.out hf2 (fun _ _ h => h)
   obtain ⟨g1, q1, rfl, hg1, _, hc1⟩ := hB2.any1 HPB.out
   have HN1 := zh (ints_news hc1)
   have hll : (B.map (Value.int .i64)).length = B.length * 1 := by rw [List.length_map, Nat.mul_one]
   have HF4 := zh (hf.out.trans hf2)
   have HS4 := zh (show wr.heap.size ≤ w4.heap.size from hf2.size)
   have HV2 := zh hv2; clear hv2; have HLL := zh hll; clear hll;clear hf2 hB2 hc1
   go_wp2_with (at_builtin; refine app_own rfl _ _ 76 3 1 8 _ rfl Tryz.underlying76 Tryz.info3 rfl (by omega) wr.heap.size (.slice (some ⟨g2, 0, none⟩) A.length q2) A.length _ rfl HV2.out ⟨g1, 0, none⟩ B.length q1 (B.map (Value.int .i64)) rfl HLL.out HN1.out (ints_one _) (by have := HLA.out; have := HLB.out; omega) (by omega) HS4.out ?_; intro v3 w5 hv3 hf3)
   have hv4 : Sl w5 wr.heap.size v3 (A ++ B) := by
    unfold Sl;rw [List.map_append, List.length_append]
    exact hv3
   have HF5 := zh (HF4.out.ownB HV2.out hf.out.size hf3)
   have HV4 := zh hv4;have HR := zh hf.out.size
   clear hv3 hf3 hv4;go_wp2_with fail
   refine (SortI_any wr.heap.size v3 (A ++ B) _ (by have := HLA.out; have := HLB.out; rw [List.length_append]; omega) (by have := HPA.out; rw [List.length_append]; omega) HV4.out).mono ?_
   rintro e w6 ⟨rfl, ys, hp, hs, hv5, hf5⟩
   have hys := HM.out ys hp hs
   have HV5 := zh (Sl.base hv5 HR.out)
   have HF6 := zh (HF5.out.ownB HV4.out HR.out hf5)
   have HYS := zh hys; clear hys;clear hp hs hv5 hf5
   go_wp2;go_ret
   exact ⟨_, rfl, by rw [← HYS.out]; exact HV5.out, HF6.out⟩
  have hM := HM1.out hz
  have hpos : 0 < (Tb.common A B).length := List.length_pos_iff.2 hz
  obtain ⟨g5, q5, rfl, _, _, _⟩ := hcv'.out.any1 hpos
  have hpi : (0 : Int) < ((Tb.common A B).length : Int) := by omega
  generalize Tb.common A B = K at *;have HM := zh hM
  clear hM hz;go_wp2
  go_ret
  exact ⟨_, rfl, by rw [← HM.out]; exact Sl.base hcv'.out HF3.out.size, hf.out⟩
theorem wish_any : ∀ T, WishSaid T
 | .leaf p x => wish_leaf p x
 | .node p l r => wish_node p l r (wish_any l) (wish_any r)
end Go.Proofs.YtffoilacaffdgaaGreatDoor
