/- Walks: counts, Fewest of the document's own answer. -/
import Derived.Test.YtdkkeaegmmepfaaLs6
namespace Go.Proofs.Ytdkkeaegmmepfaa
open Go.RowKit Go.Deep

theorem sevenI_ext {F G : Nat → Int} (h : ∀ j, j < 7 → F j = G j) : seven (I F) = seven (I G) := by
  unfold seven I
  rw [h 0 (by omega), h 1 (by omega), h 2 (by omega), h 3 (by omega), h 4 (by omega), h 5 (by omega), h 6 (by omega)]
theorem row7i (w : World) (t : TypeId) (u : Nat → Int) : (w.alloc (.cells #[.int .i64 (u 0), .int .i64 (u 1), .int .i64 (u 2), .int .i64 (u 3), .int .i64 (u 4), .int .i64 (u 5), .int .i64 (u 6)] t)).rowIs w.heap.size t 7 (I u) := by
  refine World.rowIs_alloc w _ t _ (fun i hi => ?_)
  have hi : i < 7 := by simpa using hi
  have : i = 0 ∨ i = 1 ∨ i = 2 ∨ i = 3 ∨ i = 4 ∨ i = 5 ∨ i = 6 := by omega
  rcases this with rfl | rfl | rfl | rfl | rfl | rfl | rfl <;> rfl
def CsSaid (d : Nat) : Prop := ∀ (p : Tb.Pf) (hs : List Int) (a : Option Addr) (c : Nat) (w : World), Tb.Fit d p hs → Tb.HopsOK hs → RdL w a hs → hs.length ≤ c → c ≤ 9223372036854775807 →
    Calls Try.prog 42 #[.slice a hs.length c] w (AggPost (seven (I (Tb.cnts d hs))) w)
/-- Three rows: the result's, plain's, and out's. -/
structure CsAt (T : TypeId) (g2 g3 g9 : Nat) (P F : Nat → Int) (w wr : World) : Prop where
  r3 : wr.rowIs g3 T 7 (I P)
  r9 : wr.rowIs g9 T 7 (I F)
  r2 : wr.rowIs g2 T 7 (fun _ => .int .i64 0)
  n93 : g9 ≠ g3
  n92 : g9 ≠ g2
  l9 : w.heap.size ≤ g9
  l2 : w.heap.size ≤ g2
  fr : Fr NoB w wr
theorem CsAt.set {T : TypeId} {g2 g3 g9 : Nat} {P F G : Nat → Int} {w wr : World} (h : CsAt T g2 g3 g9 P F w wr) (k : Nat) (v : Int) (hG : ∀ j, j < 7 → G j = if j = k then v else F j) : CsAt T g2 g3 g9 P G w (wr.setCell ⟨g9, k, none⟩ (.int .i64 v)) := by
  have hf := (Fr.refl (OneB g9) wr).set1 k (.int .i64 v)
  exact ⟨hf.row h.r3 (fun e => h.n93 e.symm), rowI_set h.r9 k v hG, hf.row h.r2 (fun e => h.n92 e.symm), h.n93, h.n92, h.l9, h.l2, h.fr.setNew h.l9 k _⟩
theorem CsAt.congr {T : TypeId} {g2 g3 g9 : Nat} {P F G : Nat → Int} {w wr : World} (h : CsAt T g2 g3 g9 P F w wr) (hG : ∀ j, j < 7 → G j = F j) : CsAt T g2 g3 g9 P G w wr :=
  ⟨h.r3, h.r9.congr (fun j hj => by unfold I; rw [hG j hj]), h.r2, h.n93, h.n92, h.l9, h.l2, h.fr⟩
def og (P : Nat → Int) (k h j : Nat) : Int := if j < k then Tb.lowF P (P j) 7 else if j = k then Tb.lowF P (P j) h else P j
theorem og_next (P : Nat → Int) (k j : Nat) : og P (k + 1) 0 j = og P k 7 j := by
  unfold og
  by_cases h1 : j < k
  · rw [if_pos h1, if_pos (by omega)]
  · rw [if_neg h1]
    by_cases h2 : j = k
    · rw [if_pos h2, if_pos (by omega)]
    · rw [if_neg h2, if_neg (by omega)]
      split <;> rfl
theorem og_at (P : Nat → Int) (k h : Nat) : og P k h k = Tb.lowF P (P k) h := by unfold og; rw [if_neg (by omega), if_pos rfl]
theorem og_set (P : Nat → Int) (k h j : Nat) : og P k (h + 1) j = if j = k then (if 1 + P h < og P k h k then 1 + P h else og P k h k) else og P k h j := by
  by_cases h1 : j = k
  · subst h1
    rw [og_at, if_pos rfl, og_at]
    rfl
  · rw [if_neg h1]
    unfold og
    rw [if_neg h1, if_neg h1]
def CutPl (T : TypeId) (P : Nat → Int) (g2 g3 : Nat) (w : World) (_ : Value) (wx : World) : Prop := Hid (wx.rowIs g3 T 7 (I P)) ∧ Hid (wx.rowIs g2 T 7 (fun _ => .int .i64 0)) ∧ Hid (Fr NoB w wx)
def PlRel (T : TypeId) (P : Nat → Int) (g2 g3 : Nat) (w : World) (i : Value) (wr : World) : Prop := ∃ k : Nat, k ≤ 7 ∧ i = .int .i64 k ∧ Hid (wr.rowIs g3 T 7 (I (fun j => if j < k then P j else 0))) ∧ Hid (wr.rowIs g2 T 7 (fun _ => .int .i64 0)) ∧ Hid (Fr NoB w wr)
theorem PlRel.drew {T : TypeId} {P : Nat → Int} {g2 g3 : Nat} {w wr : World} {i : Value} (h : PlRel T P g2 g3 w i wr) : PlRel T P g2 g3 w i wr.drew := by
  obtain ⟨k, h1, h2, h3, h4, h5⟩ := h
  exact ⟨k, h1, h2, h3, h4, Lib.hid h5.out.drew⟩
theorem CsAt.drewN {T : TypeId} {g2 g3 g9 : Nat} {P F : Nat → Int} {w wr : World} (h : CsAt T g2 g3 g9 P F w wr) (n : Nat) : CsAt T g2 g3 g9 P F w (wr.drewN n) := ⟨h.r3, h.r9, h.r2, h.n93, h.n92, h.l9, h.l2, h.fr.drewN n⟩
theorem PlRel.next {T : TypeId} {P : Nat → Int} {g2 g3 : Nat} {w wr : World} {k : Nat} (hk : k < 7) (h3 : wr.rowIs g3 T 7 (I (fun j => if j < k then P j else 0))) (h2 : wr.rowIs g2 T 7 (fun _ => .int .i64 0)) (hf : Fr NoB w wr) (hne : g3 ≠ g2) (hl : w.heap.size ≤ g3) (v : Int) (hv : v = P k) :
    PlRel T P g2 g3 w (.int .i64 ((k : Int) + 1)) (wr.setCell ⟨g3, k, none⟩ (.int .i64 v)) :=
  ⟨k + 1, by omega, rfl, rowI_set h3 k v (fun j hj => by
    by_cases e : j = k
    · rw [if_pos (by omega), if_pos e, hv, e]
    · rw [if_neg e]
      by_cases l : j < k
      · rw [if_pos l, if_pos (by omega)]
      · rw [if_neg l, if_neg (by omega)]), ((Fr.refl (OneB g3) wr).set1 k _).row h2 (fun e => hne e.symm), hf.setNew hl k _⟩
theorem PlRel.skip {T : TypeId} {P : Nat → Int} {g2 g3 : Nat} {w wr : World} {k : Nat} (hk : k < 7) (h3 : wr.rowIs g3 T 7 (I (fun j => if j < k then P j else 0))) (h2 : wr.rowIs g2 T 7 (fun _ => .int .i64 0)) (hf : Fr NoB w wr) (hv : P k = 0) :
    PlRel T P g2 g3 w (.int .i64 ((k : Int) + 1)) wr :=
  ⟨k + 1, by omega, rfl, h3.congr (fun j hj => by
    unfold I
    dsimp only
    congr 1
    by_cases e : j = k
    · subst e
      split <;> split <;> first | rfl | exact hv | exact hv.symm | omega
    · split <;> split <;> first | rfl | omega), h2, hf⟩
/-- Behind plain: the least of all. -/
def Cs3 (T : TypeId) (P : Nat → Int) (g2 g3 g9 : Nat) (w : World) (i : Value) (wr : World) : Prop := ∃ k : Nat, k ≤ 7 ∧ i = .int .i64 k ∧ Hid (CsAt T g2 g3 g9 P (og P k 0) w wr)
def Cs4 (T : TypeId) (P : Nat → Int) (g2 g3 g9 k : Nat) (w : World) (i : Value) (wr : World) : Prop := ∃ h : Nat, h ≤ 7 ∧ i = .int .i64 h ∧ Hid (CsAt T g2 g3 g9 P (og P k h) w wr)
theorem Cs4.next {T : TypeId} {P : Nat → Int} {g2 g3 g9 k : Nat} {w wr : World} {h : Nat} (hh : h < 7) (hc : CsAt T g2 g3 g9 P (og P k h) w wr) (hv : 1 + P h < og P k h k) :
    Cs4 T P g2 g3 g9 k w (.int .i64 ((h : Int) + 1)) (wr.setCell ⟨g9, k, none⟩ (.int .i64 (1 + P h))) :=
  ⟨h + 1, by omega, rfl, hc.set k _ (fun j _ => by rw [og_set, if_pos hv])⟩
theorem Cs4.skip {T : TypeId} {P : Nat → Int} {g2 g3 g9 k : Nat} {w wr : World} {h : Nat} (hh : h < 7) (hc : CsAt T g2 g3 g9 P (og P k h) w wr) (hv : ¬ 1 + P h < og P k h k) :
    Cs4 T P g2 g3 g9 k w (.int .i64 ((h : Int) + 1)) wr :=
  ⟨h + 1, by omega, rfl, hc.congr (fun j _ => by
    rw [og_set, if_neg hv]
    split
    · rename_i e; rw [e]
    · rfl)⟩
theorem cnts_in {d : Nat} {p : Tb.Pf} {hs : List Int} (hf : Tb.Fit d p hs) (hh : Tb.HopsOK hs) (k : Nat) : 0 ≤ Tb.cnts d hs k ∧ Tb.cnts d hs k ≤ 300 := by
  unfold Tb.cnts
  have h1 := Tb.mn_lv d p hs hf hh
  have h2 := Tb.lv_le d p hs hf
  have h3 := Tb.no_le (Tb.wsh d hs) ((k : Int) - 1)
  have h4 := hf.2.2
  have h5 := (span_in hf.1).2
  omega
set_option maxRecDepth 100000 in
set_option maxHeartbeats 32000000 in
theorem cs_step (d : Nat) (IH : ∀ e, d = e + 1 → CsSaid e) : CsSaid d := by
  intro p hs a c w hfit hh hr hc hc63
  have hlen : hs.length ≤ 1000 := by have := hfit.2.2; have := (span_in hfit.1).2; omega
  have hpos := hfit.pos
  obtain ⟨b0, o0, rfl, e0⟩ := hr 0 hpos
  dsimp only at e0
  rw [Nat.add_zero] at e0
  have hh0 := hh 0 hpos
  obtain ⟨x, hx⟩ : ∃ x, hs.getD 0 0 = x := ⟨_, rfl⟩
  rw [hx] at e0
  -- what stands in plain
  obtain ⟨P, hP, hres, hPb⟩ : ∃ P : Nat → Int, ((d = 0 ∧ P = fun k : Nat => if (k : Int) = x + 1 then (0 : Int) else 1000) ∨ ∃ e, d = e + 1 ∧ P = fun k => Tb.cnts e (Tb.lowH hs) k + Tb.cnts e (Tb.highH hs) k) ∧ (∀ k, k < 7 → Tb.lowF P (P k) 7 = Tb.cnts d hs k) ∧ (∀ k, 0 ≤ P k ∧ P k ≤ 1000) := by
    cases d with
    | zero =>
      refine ⟨fun k : Nat => if (k : Int) = x + 1 then (0 : Int) else 1000, .inl ⟨rfl, rfl⟩, fun k hk => Tb.cnts_zero (by rw [hx]; rw [hx] at hh0; exact hh0) (fun j _ => by rw [hx]) hk, fun k => ?_⟩
      dsimp only
      split <;> omega
    | succ e =>
      refine ⟨fun k => Tb.cnts e (Tb.lowH hs) k + Tb.cnts e (Tb.highH hs) k, .inr ⟨e, rfl, rfl⟩, fun k hk => Tb.cnts_succ hfit hh (fun j _ => rfl) hk, fun k => ?_⟩
      have h1 := cnts_in hfit.low hh.low k
      have h2 := cnts_in hfit.high hh.high k
      dsimp only
      omega
  have hE : seven (I (Tb.cnts d hs)) = seven (I (og P 7 0)) := sevenI_ext (fun j hj => by unfold og; rw [if_pos hj, hres j hj])
  rw [hx] at hh0
  unfold Tb.hopOK at hh0
  have hlb : ∀ k n, 0 ≤ Tb.lowF P (P k) n ∧ Tb.lowF P (P k) n ≤ 1001 := fun k n => by
    obtain ⟨q1, q2, q3⟩ := Tb.lowF_in P (P k) n
    have := hPb k
    rcases q3 with q3 | ⟨h, _, q3⟩
    · omega
    · have := hPb h; omega
  have HFIT := Lib.hid hfit; clear hfit; have HH := Lib.hid hh; clear hh; have HR := Lib.hid hr; clear hr; have HPP := Lib.hid hP; clear hP; have HRES := Lib.hid hres; clear hres; have HPB := Lib.hid hPb; clear hPb; have IHH := Lib.hid IH; clear IH; have HEQ := Lib.hid hE; clear hE; have HLB := Lib.hid hlb; clear hlb; have HX := Lib.hid hx; clear hx
  go_enter Try.func42, Try.ntmps42
  go_upto_region 2 with fail
  refine wp_name fun w1 hw => ?_
  have hr3 : w1.rowIs (w.heap.size + 1) 81 7 (fun _ => .int .i64 0) := by rw [hw]; exact row7b w _ (.int .i64 0) 81
  have hr2 : w1.rowIs w.heap.size 81 7 (fun _ => .int .i64 0) := by rw [hw]; exact ((Fr.refl NoB _).alloc _).row (rowIs_new w 7 (.int .i64 0) 81) (fun h => h)
  have hF : Fr NoB w w1 := by rw [hw]; (repeat (first | exact Fr.refl _ _ | refine Fr.alloc ?_ _ | refine Fr.setNew ?_ (by omega) _ _ | refine Fr.drewN ?_ _ | refine Fr.drew ?_))
  have e0 := cell_fr' hF e0 (fun h => h)
  clear hw
  have HR3 := Lib.hid hr3; clear hr3; have HR2 := Lib.hid hr2; clear hr2; have HF1 := Lib.hid hF; clear hF
  obtain ⟨t, ht⟩ : ∃ t, ((hs.length : Int) == 1) = t := ⟨_, rfl⟩
  go_upto_if 14 with fail
  go_cut [5] (fun s wx => CutPl 81 P w.heap.size (w.heap.size + 1) w s wx)
  case first =>
    cases t with
    | true =>
      have hl1 : hs.length = 1 := by have := beq_iff_eq.1 ht; omega
      have hPe : P = fun k : Nat => if (k : Int) = x + 1 then (0 : Int) else 1000 := by
        rcases HPP.out with ⟨_, h⟩ | ⟨e, h, _⟩
        · exact h
        · subst h
          have := HFIT.out.half
          have := Tb.span_pos HFIT.out.low.1
          omega
      have hn0 : (0 : Int) < (hs.length : Int) := by omega
      have hn0' : 0 < hs.length := by omega
      have hwx := IntWalk.i64_in (x + 1) (by omega)
      have HPE := Lib.hid hPe
      have hst : PlRel 81 P w.heap.size (w.heap.size + 1) w (.int .i64 ((0 : Nat) : Int)) w1 := ⟨0, by omega, rfl, HR3.out.congr (fun j _ => by unfold I; dsimp only; rw [if_neg (by omega)]), HR2, HF1⟩
      have HST := Lib.hid hst
      have he0 := fun W (hW : Fr NoB w W) => cell_fr' hW (show w.cell? ⟨b0, o0, none⟩ = some (.int .i64 x) by
        have h := HR.out 0 hpos
        obtain ⟨b', o', e', c'⟩ := h
        cases e'
        dsimp only at c'
        rw [HX.out, Nat.add_zero] at c'
        exact c') (fun h => h)
      have HE0 := Lib.hid he0
      clear hPe hst he0 e0
      go_wp2
      go_loopw [4] (fun i wr => PlRel 81 P w.heap.size (w.heap.size + 1) w i wr) (fun i _ => 7 - (intOf i).toNat)
      case atStart => exact HST.out
      case round =>
        obtain ⟨k, hk, rfl, h3, h2, hf⟩ := hrel
        by_cases hk7 : k < 7
        · have e0 := HE0.out wr hf.out
          have c3 := World.rowIs.cell h3.out hk7
          have f3 := World.rowIs.frozen h3.out k
          unfold I at c3
          by_cases hkx : (k : Int) = x + 1
          · have hb : ((k : Int) != x + 1) = false := by simp [hkx]
            have HNX := Lib.hid (PlRel.skip hk7 h3.out h2.out hf.out (show P k = 0 by rw [HPE.out]; dsimp only; rw [if_pos hkx]))
            clear hkx
            go_wp2
            go_roundw
            case rel => exact HNX.out
            case measure => (simp [intOf]; try omega)
          · have hb : ((k : Int) != x + 1) = true := by simpa using hkx
            have HNX := Lib.hid (PlRel.next hk7 h3.out h2.out hf.out (by omega) (by omega) 1000 (show (1000 : Int) = P k by rw [HPE.out]; dsimp only; rw [if_neg hkx]))
            clear hkx
            go_wp2
            go_roundw
            case rel => exact HNX.out
            case measure => (simp [intOf]; try omega)
        · have e : k = 7 := by omega
          have h3' : Hid (wr.rowIs (w.heap.size + 1) 81 7 (I P)) := h3.out.congr (fun j hj => by unfold I; dsimp only; rw [if_pos (by omega)])
          clear e h3
          go_wp2_with fail
          go_meet
          exact ⟨h3', h2, hf⟩
    | false =>
      have hl1 : hs.length ≠ 1 := fun h => by rw [h] at ht; cases ht
      obtain ⟨e, rfl, hPe⟩ : ∃ e, d = e + 1 ∧ P = fun k => Tb.cnts e (Tb.lowH hs) k + Tb.cnts e (Tb.highH hs) k := by
        rcases HPP.out with ⟨h, _⟩ | h
        · exfalso
          subst h
          have h1 := HFIT.out.2.1
          have h2 := HFIT.out.2.2
          unfold Tb.span at h2
          rw [show (8 - p.len).toNat = 0 from by omega] at h2
          exact hl1 (by have : ((2 : Int) ^ 0) = 1 := rfl
                        omega)
        · exact h
      obtain ⟨hh1, hh2, hh3⟩ := HFIT.out.half
      have hp1 := Tb.span_pos HFIT.out.low.1
      have hlow := RdL.low HR.out
      have hhigh := RdL.high HR.out
      have ih0 := fun W (hW : Fr NoB w W) => IHH.out e rfl _ (Tb.lowH hs) (some ⟨b0, o0, none⟩) c W HFIT.out.low HH.out.low (hlow.keep0 hW) (by rw [Tb.lowH_len]; omega) hc63
      have ih1 := fun W (hW : Fr NoB w W) => IHH.out e rfl _ (Tb.highH hs) (some ⟨b0, o0 + hs.length / 2, none⟩) (c - hs.length / 2) W HFIT.out.high HH.out.high (hhigh.keep0 hW) (by rw [Tb.highH_len]; omega) (by omega)
      rw [Tb.lowH_len] at ih0
      rw [Tb.highH_len] at ih1
      have ba := fun k => cnts_in HFIT.out.low HH.out.low k
      have bb := fun k => cnts_in HFIT.out.high HH.out.high k
      obtain ⟨ua, hua⟩ : ∃ F, F = Tb.cnts e (Tb.lowH hs) := ⟨_, rfl⟩
      obtain ⟨ub, hub⟩ : ∃ F, F = Tb.cnts e (Tb.highH hs) := ⟨_, rfl⟩
      rw [← hua] at ih0 ba hPe
      rw [← hub] at ih1 bb hPe
      unfold seven I at ih0 ih1
      obtain ⟨m, hm⟩ : ∃ m, m = hs.length / 2 := ⟨_, rfl⟩
      rw [← hm] at ih0 ih1 hh1
      have hm1 : 1 ≤ m := by omega
      have hdiv : (hs.length : Int) / 2 = (m : Int) := by omega
      have hmn : m ≤ hs.length := by omega
      have hmc : ¬ (c = m) := by omega
      have hmni : (m : Int) ≤ (hs.length : Int) := by omega
      have hmci : (m : Int) ≤ (c : Int) := by omega
      have hmw := IntWalk.i64_in (m : Int) (by omega)
      have hb2 : (2 : Int) ≠ 0 := by omega
      have IH0 : Hid (∀ W, Fr NoB w1 W → _) := fun W hW => ih0 W (HF1.out.trans hW)
      have IH1 : Hid (∀ W, Fr NoB w1 W → _) := fun W hW => ih1 W (HF1.out.trans hW)
      have HD1 := Lib.hid (Fr.drew (Fr.refl NoB w1))
      have HBA := Lib.hid ba; clear ba; have HBB := Lib.hid bb; clear bb; have HPE := Lib.hid hPe; clear hPe
      clear ih0 ih1 hlow hhigh hh1 hh2 hh3 hp1 hm hua hub e0
      go_upto_region 9 with fail
      go_cut [6, 7] (fun s5 s6 wx => CutAB 81 (I ua) (I ub) w w1 s5 s6 wx)
      case first =>
          (refine wp_region_held_drew (S := (fun _ => True)) (by kernel_rfl) trivial (fun hHeld => ?_))
          (refine wpAnyH_take (i := 0) (v := ?_) (by simp only [List.getElem?_toArray, List.getElem?_cons_zero]; rfl) (by kernel_rfl) (by kernel_rfl) (by kernel_rfl) (by exact fun _ _ _ h => h) (Or.inl ⟨by rfl, ?_⟩) hHeld ?_; rotate_left; (focus (intro w hSw; (try dsimp only at hSw); go_simp; all_goals with_reducible rfl)); (try simp only [Act.put, List.setIfInBounds_toArray, List.set_cons_zero, List.set_cons_succ])); (refine wpAnyH_take (i := 1) (v := ?_) (by simp only [List.getElem?_toArray, List.getElem?_cons_succ, List.getElem?_cons_zero]; rfl) (by kernel_rfl) (by kernel_rfl) (by kernel_rfl) (by exact fun _ _ _ h => h) (Or.inl ⟨by rfl, ?_⟩) hHeld ?_; rotate_left; (focus (intro w hSw; (try dsimp only at hSw); go_simp; all_goals with_reducible rfl)); (try simp only [Act.put, List.setIfInBounds_toArray, List.set_cons_zero, List.set_cons_succ])); (refine wpAnyH_take (i := 4) (v := ?_) (by simp only [List.getElem?_toArray, List.getElem?_cons_succ, List.getElem?_cons_zero]; rfl) (by kernel_rfl) (by kernel_rfl) (by kernel_rfl) (by exact fun _ _ _ h => h) (Or.inl ⟨by rfl, ?_⟩) hHeld ?_; rotate_left; (focus (intro w hSw; (try dsimp only at hSw); go_simp; all_goals with_reducible rfl)); (try simp only [Act.put, List.setIfInBounds_toArray, List.set_cons_zero, List.set_cons_succ])); (refine wpAnyH_take (i := 5) (v := ?_) (by simp only [List.getElem?_toArray, List.getElem?_cons_succ, List.getElem?_cons_zero]; rfl) (by kernel_rfl) (by kernel_rfl) (by kernel_rfl) (by exact fun _ _ _ h => h) (Or.inl ⟨by rfl, ?_⟩) hHeld ?_; rotate_left; (focus (intro w hSw; (try dsimp only at hSw); go_simp; all_goals with_reducible rfl)); (try simp only [Act.put, List.setIfInBounds_toArray, List.set_cons_zero, List.set_cons_succ])); (refine wpAnyH_take (i := 2) (v := ?_) (by simp only [List.getElem?_toArray, List.getElem?_cons_succ, List.getElem?_cons_zero]; rfl) (by kernel_rfl) (by kernel_rfl) (by kernel_rfl) (by exact fun _ _ _ h => h) (Or.inl ⟨by rfl, ?_⟩) hHeld ?_; rotate_left; (focus (intro w hSw; (try dsimp only at hSw); go_simp; all_goals with_reducible rfl)); (try simp only [Act.put, List.setIfInBounds_toArray, List.set_cons_zero, List.set_cons_succ])); (refine wpAnyH_take (i := 6) (v := ?_) (by simp only [List.getElem?_toArray, List.getElem?_cons_succ, List.getElem?_cons_zero]; rfl) (by kernel_rfl) (by kernel_rfl) (by kernel_rfl) (by exact fun _ _ _ h => h) (Or.inl ⟨by rfl, ?_⟩) hHeld ?_; rotate_left; (focus (intro w hSw; (try dsimp only at hSw); go_simp; all_goals with_reducible rfl)); (try simp only [Act.put, List.setIfInBounds_toArray, List.set_cons_zero, List.set_cons_succ]))
          refine wpAnyH_ready (rs := [3, 8, 9]) (by kernel_rfl) (by simp) ?_
          refine AllReadyH.cons (by simp only [List.getElem?_toArray, List.getElem?_cons_succ, List.getElem?_cons_zero]; rfl) (fun K hK => ?_) (AllReadyH.cons (by simp only [List.getElem?_toArray, List.getElem?_cons_succ, List.getElem?_cons_zero]; rfl) (fun K hK => ?_) (AllReadyH.cons (by simp only [List.getElem?_toArray, List.getElem?_cons_succ, List.getElem?_cons_zero]; rfl) (fun K hK => ?_) AllReadyH.nil))
          · go_simp
            refine (IH0.out _ HD1.out).mono ?_
            rintro e v2 ⟨rfl, hf⟩
            have HF2 := Lib.hid (HD1.out.trans hf)
            clear hf
            (try go_wp2_with fail)
            refine hK.out _ _ trivial (fun hHeld => ?_)
            clear hK K
            (try simp only [Act.put, List.setIfInBounds_toArray, List.set_cons_zero, List.set_cons_succ])
            refine wpAnyH_ready (rs := [7, 8, 9]) (by kernel_rfl) (by simp) ?_
            refine AllReadyH.cons (by simp only [List.getElem?_toArray, List.getElem?_cons_succ, List.getElem?_cons_zero]; rfl) (fun K hK => ?_) (AllReadyH.cons (by simp only [List.getElem?_toArray, List.getElem?_cons_succ, List.getElem?_cons_zero]; rfl) (fun K hK => ?_) (AllReadyH.cons (by simp only [List.getElem?_toArray, List.getElem?_cons_succ, List.getElem?_cons_zero]; rfl) (fun K hK => ?_) AllReadyH.nil))
            · go_simp
              refine (IH1.out _ HF2.out).mono ?_
              rintro e v3 ⟨rfl, hf⟩
              have HF3 := Lib.hid (HF2.out.trans hf)
              clear hf
              (try go_wp2_with fail)
              refine hK.out _ _ trivial (fun hHeld => ?_)
              clear hK K
              (try simp only [Act.put, List.setIfInBounds_toArray, List.set_cons_zero, List.set_cons_succ])
              refine wpAnyH_ready (rs := [8, 9]) (by kernel_rfl) (by simp) ?_
              refine AllReadyH.cons (by simp only [List.getElem?_toArray, List.getElem?_cons_succ, List.getElem?_cons_zero]; rfl) (fun K hK => ?_) (AllReadyH.cons (by simp only [List.getElem?_toArray, List.getElem?_cons_succ, List.getElem?_cons_zero]; rfl) (fun K hK => ?_) AllReadyH.nil)
              · go_simp
                (try go_wp2_with fail)
                refine hK.out _ _ trivial (fun hHeld => ?_)
                clear hK K
                (try simp only [Act.put, List.setIfInBounds_toArray, List.set_cons_zero, List.set_cons_succ])
                refine wpAnyH_name fun v4 hw => ?_
                have hf : Fr NoB v3 v4 := by rw [hw]; (repeat (first | exact Fr.refl _ _ | refine Fr.alloc ?_ _ | refine Fr.setNew ?_ (by omega) _ _ | refine Fr.drewN ?_ _ | refine Fr.drew ?_))
                have hr : v4.rowIs v3.heap.size 81 7 (fun _ => .int .i64 0) := by rw [hw]; exact rowIs_new v3 7 _ _
                clear hw
                have HF4 : Hid (Fr NoB w1 v4) := (HF3.out.trans hf)
                have RA4 := Lib.hid hr
                have HA4 : Hid (w1.heap.size ≤ v3.heap.size) := (HF3.out).size
                clear hf hr
                refine wpAnyH_ready (rs := [9]) (by kernel_rfl) (by simp) ?_
                refine AllReadyH.cons (by simp only [List.getElem?_toArray, List.getElem?_cons_succ, List.getElem?_cons_zero]; rfl) (fun K hK => ?_) AllReadyH.nil
                · go_simp
                  (try go_wp2_with fail)
                  refine hK.out _ _ trivial (fun hHeld => ?_)
                  clear hK K
                  (try simp only [Act.put, List.setIfInBounds_toArray, List.set_cons_zero, List.set_cons_succ])
                  refine wpAnyH_name fun v5 hw => ?_
                  have hf : Fr NoB v4 v5 := by rw [hw]; (repeat (first | exact Fr.refl _ _ | refine Fr.alloc ?_ _ | refine Fr.setNew ?_ (by omega) _ _ | refine Fr.drewN ?_ _ | refine Fr.drew ?_))
                  have hr : v5.rowIs v4.heap.size 81 7 (fun _ => .int .i64 0) := by rw [hw]; exact rowIs_new v4 7 _ _
                  clear hw
                  have HF5 : Hid (Fr NoB w1 v5) := (HF4.out.trans hf)
                  have RB5 := Lib.hid hr
                  have RA5 := Lib.hid (hf.row RA4.out (fun h => h))
                  have HB5 : Hid (w1.heap.size ≤ v4.heap.size) := (HF4.out).size
                  have HNE : Hid (v3.heap.size ≠ v4.heap.size) := fun e => by have := World.rowIs.lt RA4.out; omega
                  clear hf hr
                  have HAB : Hid (v3.heap.size ≠ v4.heap.size) := HNE.out
                  have HGA : Hid (w1.heap.size ≤ v3.heap.size) := HA4.out
                  have HGB : Hid (w1.heap.size ≤ v4.heap.size) := HB5.out
                  have HRA : Hid (World.rowIs v5 v3.heap.size 81 7 (fun _ => .int .i64 0)) := RA5
                  have HRB : Hid (World.rowIs v5 v4.heap.size 81 7 (fun _ => .int .i64 0)) := RB5
                  have HFF : Hid (Fr NoB w1 v5) := HF5
                  refine wpAnyH_ready (rs := [10]) (by kernel_rfl) (by simp) ?_
                  refine AllReadyH.cons (by simp only [List.getElem?_toArray, List.getElem?_cons_succ, List.getElem?_cons_zero]; rfl) (fun K hK => ?_) AllReadyH.nil
                  refine step_store7 (by rfl) 81 (.tmp 6) (.tmp 33) (by rfl) v3.heap.size #[Value.int .i64 (ua 0), Value.int .i64 (ua 1), Value.int .i64 (ua 2), Value.int .i64 (ua 3), Value.int .i64 (ua 4), Value.int .i64 (ua 5), Value.int .i64 (ua 6)] (by rfl) (by rfl) (there7 HRA.out) (by kernel_rfl) (one7 (Value.int .i64) ua (fun _ => rfl)) ?_
                  refine hK.out _ _ trivial (fun hHeld => ?_)
                  clear hK K
                  (try simp only [Act.put])
                  refine wpAnyH_name fun x1 hw => ?_
                  have hra : x1.rowIs v3.heap.size 81 7 (I ua) := by rw [hw]; exact set7 (A := I ua) HRA.out
                  have hrb : x1.rowIs v4.heap.size 81 7 (fun _ => .int .i64 0) := by rw [hw]; exact set7_other _ HRB.out (fun e => HAB.out e.symm)
                  have hff : Fr NoB w1 x1 := by rw [hw]; exact set7_fr HFF.out HGA.out _ _
                  clear hw
                  have HRA1 := Lib.hid hra; clear hra; have HRB1 := Lib.hid hrb; clear hrb; have HFF1 := Lib.hid hff; clear hff
                  refine wpAnyH_ready (rs := [11]) (by kernel_rfl) (by simp) ?_
                  refine AllReadyH.cons (by simp only [List.getElem?_toArray, List.getElem?_cons_succ, List.getElem?_cons_zero]; rfl) (fun K hK => ?_) AllReadyH.nil
                  refine step_store7 (by rfl) 81 (.tmp 7) (.tmp 37) (by rfl) v4.heap.size #[Value.int .i64 (ub 0), Value.int .i64 (ub 1), Value.int .i64 (ub 2), Value.int .i64 (ub 3), Value.int .i64 (ub 4), Value.int .i64 (ub 5), Value.int .i64 (ub 6)] (by rfl) (by rfl) (there7 HRB1.out) (by kernel_rfl) (one7 (Value.int .i64) ub (fun _ => rfl)) ?_
                  refine hK.out _ _ trivial (fun hHeld => ?_)
                  clear hK K
                  (try simp only [Act.put])
                  refine wpAnyH_name fun x2 hw => ?_
                  have hrb : x2.rowIs v4.heap.size 81 7 (I ub) := by rw [hw]; exact set7 (A := I ub) HRB1.out
                  have hra : x2.rowIs v3.heap.size 81 7 (I ua) := by rw [hw]; exact set7_other _ HRA1.out HAB.out
                  have hff : Fr NoB w1 x2 := by rw [hw]; exact set7_fr HFF1.out HGB.out _ _
                  clear hw
                  have HRA2 := Lib.hid hra; clear hra; have HRB2 := Lib.hid hrb; clear hrb; have HFF2 := Lib.hid hff; clear hff
                  (refine wpAnyH_done (by kernel_rfl) ?_ _)
                  go_wp2_with fail
                  go_meet
                  exact ⟨v3.heap.size, v4.heap.size, rfl, rfl, HAB, HGA, HGB, HRA2, HRB2, HFF2, Lib.hid (HF1.out.trans HFF2.out)⟩
              · go_simp
                (try go_wp2_with fail)
                refine hK.out _ _ trivial (fun hHeld => ?_)
                clear hK K
                (try simp only [Act.put, List.setIfInBounds_toArray, List.set_cons_zero, List.set_cons_succ])
                refine wpAnyH_name fun v4 hw => ?_
                have hf : Fr NoB v3 v4 := by rw [hw]; (repeat (first | exact Fr.refl _ _ | refine Fr.alloc ?_ _ | refine Fr.setNew ?_ (by omega) _ _ | refine Fr.drewN ?_ _ | refine Fr.drew ?_))
                have hr : v4.rowIs v3.heap.size 81 7 (fun _ => .int .i64 0) := by rw [hw]; exact rowIs_new v3 7 _ _
                clear hw
                have HF4 : Hid (Fr NoB w1 v4) := (HF3.out.trans hf)
                have RB4 := Lib.hid hr
                have HB4 : Hid (w1.heap.size ≤ v3.heap.size) := (HF3.out).size
                clear hf hr
                refine wpAnyH_ready (rs := [8]) (by kernel_rfl) (by simp) ?_
                refine AllReadyH.cons (by simp only [List.getElem?_toArray, List.getElem?_cons_succ, List.getElem?_cons_zero]; rfl) (fun K hK => ?_) AllReadyH.nil
                · go_simp
                  (try go_wp2_with fail)
                  refine hK.out _ _ trivial (fun hHeld => ?_)
                  clear hK K
                  (try simp only [Act.put, List.setIfInBounds_toArray, List.set_cons_zero, List.set_cons_succ])
                  refine wpAnyH_name fun v5 hw => ?_
                  have hf : Fr NoB v4 v5 := by rw [hw]; (repeat (first | exact Fr.refl _ _ | refine Fr.alloc ?_ _ | refine Fr.setNew ?_ (by omega) _ _ | refine Fr.drewN ?_ _ | refine Fr.drew ?_))
                  have hr : v5.rowIs v4.heap.size 81 7 (fun _ => .int .i64 0) := by rw [hw]; exact rowIs_new v4 7 _ _
                  clear hw
                  have HF5 : Hid (Fr NoB w1 v5) := (HF4.out.trans hf)
                  have RA5 := Lib.hid hr
                  have RB5 := Lib.hid (hf.row RB4.out (fun h => h))
                  have HA5 : Hid (w1.heap.size ≤ v4.heap.size) := (HF4.out).size
                  have HNE : Hid (v3.heap.size ≠ v4.heap.size) := fun e => by have := World.rowIs.lt RB4.out; omega
                  clear hf hr
                  have HAB : Hid (v4.heap.size ≠ v3.heap.size) := fun e => HNE.out e.symm
                  have HGA : Hid (w1.heap.size ≤ v4.heap.size) := HA5.out
                  have HGB : Hid (w1.heap.size ≤ v3.heap.size) := HB4.out
                  have HRA : Hid (World.rowIs v5 v4.heap.size 81 7 (fun _ => .int .i64 0)) := RA5
                  have HRB : Hid (World.rowIs v5 v3.heap.size 81 7 (fun _ => .int .i64 0)) := RB5
                  have HFF : Hid (Fr NoB w1 v5) := HF5
                  refine wpAnyH_ready (rs := [10]) (by kernel_rfl) (by simp) ?_
                  refine AllReadyH.cons (by simp only [List.getElem?_toArray, List.getElem?_cons_succ, List.getElem?_cons_zero]; rfl) (fun K hK => ?_) AllReadyH.nil
                  refine step_store7 (by rfl) 81 (.tmp 6) (.tmp 33) (by rfl) v4.heap.size #[Value.int .i64 (ua 0), Value.int .i64 (ua 1), Value.int .i64 (ua 2), Value.int .i64 (ua 3), Value.int .i64 (ua 4), Value.int .i64 (ua 5), Value.int .i64 (ua 6)] (by rfl) (by rfl) (there7 HRA.out) (by kernel_rfl) (one7 (Value.int .i64) ua (fun _ => rfl)) ?_
                  refine hK.out _ _ trivial (fun hHeld => ?_)
                  clear hK K
                  (try simp only [Act.put])
                  refine wpAnyH_name fun x1 hw => ?_
                  have hra : x1.rowIs v4.heap.size 81 7 (I ua) := by rw [hw]; exact set7 (A := I ua) HRA.out
                  have hrb : x1.rowIs v3.heap.size 81 7 (fun _ => .int .i64 0) := by rw [hw]; exact set7_other _ HRB.out (fun e => HAB.out e.symm)
                  have hff : Fr NoB w1 x1 := by rw [hw]; exact set7_fr HFF.out HGA.out _ _
                  clear hw
                  have HRA1 := Lib.hid hra; clear hra; have HRB1 := Lib.hid hrb; clear hrb; have HFF1 := Lib.hid hff; clear hff
                  refine wpAnyH_ready (rs := [11]) (by kernel_rfl) (by simp) ?_
                  refine AllReadyH.cons (by simp only [List.getElem?_toArray, List.getElem?_cons_succ, List.getElem?_cons_zero]; rfl) (fun K hK => ?_) AllReadyH.nil
                  refine step_store7 (by rfl) 81 (.tmp 7) (.tmp 37) (by rfl) v3.heap.size #[Value.int .i64 (ub 0), Value.int .i64 (ub 1), Value.int .i64 (ub 2), Value.int .i64 (ub 3), Value.int .i64 (ub 4), Value.int .i64 (ub 5), Value.int .i64 (ub 6)] (by rfl) (by rfl) (there7 HRB1.out) (by kernel_rfl) (one7 (Value.int .i64) ub (fun _ => rfl)) ?_
                  refine hK.out _ _ trivial (fun hHeld => ?_)
                  clear hK K
                  (try simp only [Act.put])
                  refine wpAnyH_name fun x2 hw => ?_
                  have hrb : x2.rowIs v3.heap.size 81 7 (I ub) := by rw [hw]; exact set7 (A := I ub) HRB1.out
                  have hra : x2.rowIs v4.heap.size 81 7 (I ua) := by rw [hw]; exact set7_other _ HRA1.out HAB.out
                  have hff : Fr NoB w1 x2 := by rw [hw]; exact set7_fr HFF1.out HGB.out _ _
                  clear hw
                  have HRA2 := Lib.hid hra; clear hra; have HRB2 := Lib.hid hrb; clear hrb; have HFF2 := Lib.hid hff; clear hff
                  (refine wpAnyH_done (by kernel_rfl) ?_ _)
                  go_wp2_with fail
                  go_meet
                  exact ⟨v4.heap.size, v3.heap.size, rfl, rfl, HAB, HGA, HGB, HRA2, HRB2, HFF2, Lib.hid (HF1.out.trans HFF2.out)⟩
            · go_simp
              (try go_wp2_with fail)
              refine hK.out _ _ trivial (fun hHeld => ?_)
              clear hK K
              (try simp only [Act.put, List.setIfInBounds_toArray, List.set_cons_zero, List.set_cons_succ])
              refine wpAnyH_name fun v3 hw => ?_
              have hf : Fr NoB v2 v3 := by rw [hw]; (repeat (first | exact Fr.refl _ _ | refine Fr.alloc ?_ _ | refine Fr.setNew ?_ (by omega) _ _ | refine Fr.drewN ?_ _ | refine Fr.drew ?_))
              have hr : v3.rowIs v2.heap.size 81 7 (fun _ => .int .i64 0) := by rw [hw]; exact rowIs_new v2 7 _ _
              clear hw
              have HF3 : Hid (Fr NoB w1 v3) := (HF2.out.trans hf)
              have RA3 := Lib.hid hr
              have HA3 : Hid (w1.heap.size ≤ v2.heap.size) := (HF2.out).size
              clear hf hr
              refine wpAnyH_ready (rs := [7, 9]) (by kernel_rfl) (by simp) ?_
              refine AllReadyH.cons (by simp only [List.getElem?_toArray, List.getElem?_cons_succ, List.getElem?_cons_zero]; rfl) (fun K hK => ?_) (AllReadyH.cons (by simp only [List.getElem?_toArray, List.getElem?_cons_succ, List.getElem?_cons_zero]; rfl) (fun K hK => ?_) AllReadyH.nil)
              · go_simp
                refine (IH1.out _ HF3.out).mono ?_
                rintro e v4 ⟨rfl, hf⟩
                have HF4 := Lib.hid (HF3.out.trans hf)
                have RA4 := Lib.hid (hf.row RA3.out (fun h => h))
                clear hf
                (try go_wp2_with fail)
                refine hK.out _ _ trivial (fun hHeld => ?_)
                clear hK K
                (try simp only [Act.put, List.setIfInBounds_toArray, List.set_cons_zero, List.set_cons_succ])
                refine wpAnyH_ready (rs := [9]) (by kernel_rfl) (by simp) ?_
                refine AllReadyH.cons (by simp only [List.getElem?_toArray, List.getElem?_cons_succ, List.getElem?_cons_zero]; rfl) (fun K hK => ?_) AllReadyH.nil
                · go_simp
                  (try go_wp2_with fail)
                  refine hK.out _ _ trivial (fun hHeld => ?_)
                  clear hK K
                  (try simp only [Act.put, List.setIfInBounds_toArray, List.set_cons_zero, List.set_cons_succ])
                  refine wpAnyH_name fun v5 hw => ?_
                  have hf : Fr NoB v4 v5 := by rw [hw]; (repeat (first | exact Fr.refl _ _ | refine Fr.alloc ?_ _ | refine Fr.setNew ?_ (by omega) _ _ | refine Fr.drewN ?_ _ | refine Fr.drew ?_))
                  have hr : v5.rowIs v4.heap.size 81 7 (fun _ => .int .i64 0) := by rw [hw]; exact rowIs_new v4 7 _ _
                  clear hw
                  have HF5 : Hid (Fr NoB w1 v5) := (HF4.out.trans hf)
                  have RB5 := Lib.hid hr
                  have RA5 := Lib.hid (hf.row RA4.out (fun h => h))
                  have HB5 : Hid (w1.heap.size ≤ v4.heap.size) := (HF4.out).size
                  have HNE : Hid (v2.heap.size ≠ v4.heap.size) := fun e => by have := World.rowIs.lt RA4.out; omega
                  clear hf hr
                  have HAB : Hid (v2.heap.size ≠ v4.heap.size) := HNE.out
                  have HGA : Hid (w1.heap.size ≤ v2.heap.size) := HA3.out
                  have HGB : Hid (w1.heap.size ≤ v4.heap.size) := HB5.out
                  have HRA : Hid (World.rowIs v5 v2.heap.size 81 7 (fun _ => .int .i64 0)) := RA5
                  have HRB : Hid (World.rowIs v5 v4.heap.size 81 7 (fun _ => .int .i64 0)) := RB5
                  have HFF : Hid (Fr NoB w1 v5) := HF5
                  refine wpAnyH_ready (rs := [10]) (by kernel_rfl) (by simp) ?_
                  refine AllReadyH.cons (by simp only [List.getElem?_toArray, List.getElem?_cons_succ, List.getElem?_cons_zero]; rfl) (fun K hK => ?_) AllReadyH.nil
                  refine step_store7 (by rfl) 81 (.tmp 6) (.tmp 33) (by rfl) v2.heap.size #[Value.int .i64 (ua 0), Value.int .i64 (ua 1), Value.int .i64 (ua 2), Value.int .i64 (ua 3), Value.int .i64 (ua 4), Value.int .i64 (ua 5), Value.int .i64 (ua 6)] (by rfl) (by rfl) (there7 HRA.out) (by kernel_rfl) (one7 (Value.int .i64) ua (fun _ => rfl)) ?_
                  refine hK.out _ _ trivial (fun hHeld => ?_)
                  clear hK K
                  (try simp only [Act.put])
                  refine wpAnyH_name fun x1 hw => ?_
                  have hra : x1.rowIs v2.heap.size 81 7 (I ua) := by rw [hw]; exact set7 (A := I ua) HRA.out
                  have hrb : x1.rowIs v4.heap.size 81 7 (fun _ => .int .i64 0) := by rw [hw]; exact set7_other _ HRB.out (fun e => HAB.out e.symm)
                  have hff : Fr NoB w1 x1 := by rw [hw]; exact set7_fr HFF.out HGA.out _ _
                  clear hw
                  have HRA1 := Lib.hid hra; clear hra; have HRB1 := Lib.hid hrb; clear hrb; have HFF1 := Lib.hid hff; clear hff
                  refine wpAnyH_ready (rs := [11]) (by kernel_rfl) (by simp) ?_
                  refine AllReadyH.cons (by simp only [List.getElem?_toArray, List.getElem?_cons_succ, List.getElem?_cons_zero]; rfl) (fun K hK => ?_) AllReadyH.nil
                  refine step_store7 (by rfl) 81 (.tmp 7) (.tmp 37) (by rfl) v4.heap.size #[Value.int .i64 (ub 0), Value.int .i64 (ub 1), Value.int .i64 (ub 2), Value.int .i64 (ub 3), Value.int .i64 (ub 4), Value.int .i64 (ub 5), Value.int .i64 (ub 6)] (by rfl) (by rfl) (there7 HRB1.out) (by kernel_rfl) (one7 (Value.int .i64) ub (fun _ => rfl)) ?_
                  refine hK.out _ _ trivial (fun hHeld => ?_)
                  clear hK K
                  (try simp only [Act.put])
                  refine wpAnyH_name fun x2 hw => ?_
                  have hrb : x2.rowIs v4.heap.size 81 7 (I ub) := by rw [hw]; exact set7 (A := I ub) HRB1.out
                  have hra : x2.rowIs v2.heap.size 81 7 (I ua) := by rw [hw]; exact set7_other _ HRA1.out HAB.out
                  have hff : Fr NoB w1 x2 := by rw [hw]; exact set7_fr HFF1.out HGB.out _ _
                  clear hw
                  have HRA2 := Lib.hid hra; clear hra; have HRB2 := Lib.hid hrb; clear hrb; have HFF2 := Lib.hid hff; clear hff
                  (refine wpAnyH_done (by kernel_rfl) ?_ _)
                  go_wp2_with fail
                  go_meet
                  exact ⟨v2.heap.size, v4.heap.size, rfl, rfl, HAB, HGA, HGB, HRA2, HRB2, HFF2, Lib.hid (HF1.out.trans HFF2.out)⟩
              · go_simp
                (try go_wp2_with fail)
                refine hK.out _ _ trivial (fun hHeld => ?_)
                clear hK K
                (try simp only [Act.put, List.setIfInBounds_toArray, List.set_cons_zero, List.set_cons_succ])
                refine wpAnyH_name fun v4 hw => ?_
                have hf : Fr NoB v3 v4 := by rw [hw]; (repeat (first | exact Fr.refl _ _ | refine Fr.alloc ?_ _ | refine Fr.setNew ?_ (by omega) _ _ | refine Fr.drewN ?_ _ | refine Fr.drew ?_))
                have hr : v4.rowIs v3.heap.size 81 7 (fun _ => .int .i64 0) := by rw [hw]; exact rowIs_new v3 7 _ _
                clear hw
                have HF4 : Hid (Fr NoB w1 v4) := (HF3.out.trans hf)
                have RB4 := Lib.hid hr
                have RA4 := Lib.hid (hf.row RA3.out (fun h => h))
                have HB4 : Hid (w1.heap.size ≤ v3.heap.size) := (HF3.out).size
                have HNE : Hid (v2.heap.size ≠ v3.heap.size) := fun e => by have := World.rowIs.lt RA3.out; omega
                clear hf hr
                refine wpAnyH_ready (rs := [7]) (by kernel_rfl) (by simp) ?_
                refine AllReadyH.cons (by simp only [List.getElem?_toArray, List.getElem?_cons_succ, List.getElem?_cons_zero]; rfl) (fun K hK => ?_) AllReadyH.nil
                · go_simp
                  refine (IH1.out _ HF4.out).mono ?_
                  rintro e v5 ⟨rfl, hf⟩
                  have HF5 := Lib.hid (HF4.out.trans hf)
                  have RA5 := Lib.hid (hf.row RA4.out (fun h => h))
                  have RB5 := Lib.hid (hf.row RB4.out (fun h => h))
                  clear hf
                  (try go_wp2_with fail)
                  refine hK.out _ _ trivial (fun hHeld => ?_)
                  clear hK K
                  (try simp only [Act.put, List.setIfInBounds_toArray, List.set_cons_zero, List.set_cons_succ])
                  have HAB : Hid (v2.heap.size ≠ v3.heap.size) := HNE.out
                  have HGA : Hid (w1.heap.size ≤ v2.heap.size) := HA3.out
                  have HGB : Hid (w1.heap.size ≤ v3.heap.size) := HB4.out
                  have HRA : Hid (World.rowIs v5 v2.heap.size 81 7 (fun _ => .int .i64 0)) := RA5
                  have HRB : Hid (World.rowIs v5 v3.heap.size 81 7 (fun _ => .int .i64 0)) := RB5
                  have HFF : Hid (Fr NoB w1 v5) := HF5
                  refine wpAnyH_ready (rs := [10]) (by kernel_rfl) (by simp) ?_
                  refine AllReadyH.cons (by simp only [List.getElem?_toArray, List.getElem?_cons_succ, List.getElem?_cons_zero]; rfl) (fun K hK => ?_) AllReadyH.nil
                  refine step_store7 (by rfl) 81 (.tmp 6) (.tmp 33) (by rfl) v2.heap.size #[Value.int .i64 (ua 0), Value.int .i64 (ua 1), Value.int .i64 (ua 2), Value.int .i64 (ua 3), Value.int .i64 (ua 4), Value.int .i64 (ua 5), Value.int .i64 (ua 6)] (by rfl) (by rfl) (there7 HRA.out) (by kernel_rfl) (one7 (Value.int .i64) ua (fun _ => rfl)) ?_
                  refine hK.out _ _ trivial (fun hHeld => ?_)
                  clear hK K
                  (try simp only [Act.put])
                  refine wpAnyH_name fun x1 hw => ?_
                  have hra : x1.rowIs v2.heap.size 81 7 (I ua) := by rw [hw]; exact set7 (A := I ua) HRA.out
                  have hrb : x1.rowIs v3.heap.size 81 7 (fun _ => .int .i64 0) := by rw [hw]; exact set7_other _ HRB.out (fun e => HAB.out e.symm)
                  have hff : Fr NoB w1 x1 := by rw [hw]; exact set7_fr HFF.out HGA.out _ _
                  clear hw
                  have HRA1 := Lib.hid hra; clear hra; have HRB1 := Lib.hid hrb; clear hrb; have HFF1 := Lib.hid hff; clear hff
                  refine wpAnyH_ready (rs := [11]) (by kernel_rfl) (by simp) ?_
                  refine AllReadyH.cons (by simp only [List.getElem?_toArray, List.getElem?_cons_succ, List.getElem?_cons_zero]; rfl) (fun K hK => ?_) AllReadyH.nil
                  refine step_store7 (by rfl) 81 (.tmp 7) (.tmp 37) (by rfl) v3.heap.size #[Value.int .i64 (ub 0), Value.int .i64 (ub 1), Value.int .i64 (ub 2), Value.int .i64 (ub 3), Value.int .i64 (ub 4), Value.int .i64 (ub 5), Value.int .i64 (ub 6)] (by rfl) (by rfl) (there7 HRB1.out) (by kernel_rfl) (one7 (Value.int .i64) ub (fun _ => rfl)) ?_
                  refine hK.out _ _ trivial (fun hHeld => ?_)
                  clear hK K
                  (try simp only [Act.put])
                  refine wpAnyH_name fun x2 hw => ?_
                  have hrb : x2.rowIs v3.heap.size 81 7 (I ub) := by rw [hw]; exact set7 (A := I ub) HRB1.out
                  have hra : x2.rowIs v2.heap.size 81 7 (I ua) := by rw [hw]; exact set7_other _ HRA1.out HAB.out
                  have hff : Fr NoB w1 x2 := by rw [hw]; exact set7_fr HFF1.out HGB.out _ _
                  clear hw
                  have HRA2 := Lib.hid hra; clear hra; have HRB2 := Lib.hid hrb; clear hrb; have HFF2 := Lib.hid hff; clear hff
                  (refine wpAnyH_done (by kernel_rfl) ?_ _)
                  go_wp2_with fail
                  go_meet
                  exact ⟨v2.heap.size, v3.heap.size, rfl, rfl, HAB, HGA, HGB, HRA2, HRB2, HFF2, Lib.hid (HF1.out.trans HFF2.out)⟩
            · go_simp
              (try go_wp2_with fail)
              refine hK.out _ _ trivial (fun hHeld => ?_)
              clear hK K
              (try simp only [Act.put, List.setIfInBounds_toArray, List.set_cons_zero, List.set_cons_succ])
              refine wpAnyH_name fun v3 hw => ?_
              have hf : Fr NoB v2 v3 := by rw [hw]; (repeat (first | exact Fr.refl _ _ | refine Fr.alloc ?_ _ | refine Fr.setNew ?_ (by omega) _ _ | refine Fr.drewN ?_ _ | refine Fr.drew ?_))
              have hr : v3.rowIs v2.heap.size 81 7 (fun _ => .int .i64 0) := by rw [hw]; exact rowIs_new v2 7 _ _
              clear hw
              have HF3 : Hid (Fr NoB w1 v3) := (HF2.out.trans hf)
              have RB3 := Lib.hid hr
              have HB3 : Hid (w1.heap.size ≤ v2.heap.size) := (HF2.out).size
              clear hf hr
              refine wpAnyH_ready (rs := [7, 8]) (by kernel_rfl) (by simp) ?_
              refine AllReadyH.cons (by simp only [List.getElem?_toArray, List.getElem?_cons_succ, List.getElem?_cons_zero]; rfl) (fun K hK => ?_) (AllReadyH.cons (by simp only [List.getElem?_toArray, List.getElem?_cons_succ, List.getElem?_cons_zero]; rfl) (fun K hK => ?_) AllReadyH.nil)
              · go_simp
                refine (IH1.out _ HF3.out).mono ?_
                rintro e v4 ⟨rfl, hf⟩
                have HF4 := Lib.hid (HF3.out.trans hf)
                have RB4 := Lib.hid (hf.row RB3.out (fun h => h))
                clear hf
                (try go_wp2_with fail)
                refine hK.out _ _ trivial (fun hHeld => ?_)
                clear hK K
                (try simp only [Act.put, List.setIfInBounds_toArray, List.set_cons_zero, List.set_cons_succ])
                refine wpAnyH_ready (rs := [8]) (by kernel_rfl) (by simp) ?_
                refine AllReadyH.cons (by simp only [List.getElem?_toArray, List.getElem?_cons_succ, List.getElem?_cons_zero]; rfl) (fun K hK => ?_) AllReadyH.nil
                · go_simp
                  (try go_wp2_with fail)
                  refine hK.out _ _ trivial (fun hHeld => ?_)
                  clear hK K
                  (try simp only [Act.put, List.setIfInBounds_toArray, List.set_cons_zero, List.set_cons_succ])
                  refine wpAnyH_name fun v5 hw => ?_
                  have hf : Fr NoB v4 v5 := by rw [hw]; (repeat (first | exact Fr.refl _ _ | refine Fr.alloc ?_ _ | refine Fr.setNew ?_ (by omega) _ _ | refine Fr.drewN ?_ _ | refine Fr.drew ?_))
                  have hr : v5.rowIs v4.heap.size 81 7 (fun _ => .int .i64 0) := by rw [hw]; exact rowIs_new v4 7 _ _
                  clear hw
                  have HF5 : Hid (Fr NoB w1 v5) := (HF4.out.trans hf)
                  have RA5 := Lib.hid hr
                  have RB5 := Lib.hid (hf.row RB4.out (fun h => h))
                  have HA5 : Hid (w1.heap.size ≤ v4.heap.size) := (HF4.out).size
                  have HNE : Hid (v2.heap.size ≠ v4.heap.size) := fun e => by have := World.rowIs.lt RB4.out; omega
                  clear hf hr
                  have HAB : Hid (v4.heap.size ≠ v2.heap.size) := fun e => HNE.out e.symm
                  have HGA : Hid (w1.heap.size ≤ v4.heap.size) := HA5.out
                  have HGB : Hid (w1.heap.size ≤ v2.heap.size) := HB3.out
                  have HRA : Hid (World.rowIs v5 v4.heap.size 81 7 (fun _ => .int .i64 0)) := RA5
                  have HRB : Hid (World.rowIs v5 v2.heap.size 81 7 (fun _ => .int .i64 0)) := RB5
                  have HFF : Hid (Fr NoB w1 v5) := HF5
                  refine wpAnyH_ready (rs := [10]) (by kernel_rfl) (by simp) ?_
                  refine AllReadyH.cons (by simp only [List.getElem?_toArray, List.getElem?_cons_succ, List.getElem?_cons_zero]; rfl) (fun K hK => ?_) AllReadyH.nil
                  refine step_store7 (by rfl) 81 (.tmp 6) (.tmp 33) (by rfl) v4.heap.size #[Value.int .i64 (ua 0), Value.int .i64 (ua 1), Value.int .i64 (ua 2), Value.int .i64 (ua 3), Value.int .i64 (ua 4), Value.int .i64 (ua 5), Value.int .i64 (ua 6)] (by rfl) (by rfl) (there7 HRA.out) (by kernel_rfl) (one7 (Value.int .i64) ua (fun _ => rfl)) ?_
                  refine hK.out _ _ trivial (fun hHeld => ?_)
                  clear hK K
                  (try simp only [Act.put])
                  refine wpAnyH_name fun x1 hw => ?_
                  have hra : x1.rowIs v4.heap.size 81 7 (I ua) := by rw [hw]; exact set7 (A := I ua) HRA.out
                  have hrb : x1.rowIs v2.heap.size 81 7 (fun _ => .int .i64 0) := by rw [hw]; exact set7_other _ HRB.out (fun e => HAB.out e.symm)
                  have hff : Fr NoB w1 x1 := by rw [hw]; exact set7_fr HFF.out HGA.out _ _
                  clear hw
                  have HRA1 := Lib.hid hra; clear hra; have HRB1 := Lib.hid hrb; clear hrb; have HFF1 := Lib.hid hff; clear hff
                  refine wpAnyH_ready (rs := [11]) (by kernel_rfl) (by simp) ?_
                  refine AllReadyH.cons (by simp only [List.getElem?_toArray, List.getElem?_cons_succ, List.getElem?_cons_zero]; rfl) (fun K hK => ?_) AllReadyH.nil
                  refine step_store7 (by rfl) 81 (.tmp 7) (.tmp 37) (by rfl) v2.heap.size #[Value.int .i64 (ub 0), Value.int .i64 (ub 1), Value.int .i64 (ub 2), Value.int .i64 (ub 3), Value.int .i64 (ub 4), Value.int .i64 (ub 5), Value.int .i64 (ub 6)] (by rfl) (by rfl) (there7 HRB1.out) (by kernel_rfl) (one7 (Value.int .i64) ub (fun _ => rfl)) ?_
                  refine hK.out _ _ trivial (fun hHeld => ?_)
                  clear hK K
                  (try simp only [Act.put])
                  refine wpAnyH_name fun x2 hw => ?_
                  have hrb : x2.rowIs v2.heap.size 81 7 (I ub) := by rw [hw]; exact set7 (A := I ub) HRB1.out
                  have hra : x2.rowIs v4.heap.size 81 7 (I ua) := by rw [hw]; exact set7_other _ HRA1.out HAB.out
                  have hff : Fr NoB w1 x2 := by rw [hw]; exact set7_fr HFF1.out HGB.out _ _
                  clear hw
                  have HRA2 := Lib.hid hra; clear hra; have HRB2 := Lib.hid hrb; clear hrb; have HFF2 := Lib.hid hff; clear hff
                  (refine wpAnyH_done (by kernel_rfl) ?_ _)
                  go_wp2_with fail
                  go_meet
                  exact ⟨v4.heap.size, v2.heap.size, rfl, rfl, HAB, HGA, HGB, HRA2, HRB2, HFF2, Lib.hid (HF1.out.trans HFF2.out)⟩
              · go_simp
                (try go_wp2_with fail)
                refine hK.out _ _ trivial (fun hHeld => ?_)
                clear hK K
                (try simp only [Act.put, List.setIfInBounds_toArray, List.set_cons_zero, List.set_cons_succ])
                refine wpAnyH_name fun v4 hw => ?_
                have hf : Fr NoB v3 v4 := by rw [hw]; (repeat (first | exact Fr.refl _ _ | refine Fr.alloc ?_ _ | refine Fr.setNew ?_ (by omega) _ _ | refine Fr.drewN ?_ _ | refine Fr.drew ?_))
                have hr : v4.rowIs v3.heap.size 81 7 (fun _ => .int .i64 0) := by rw [hw]; exact rowIs_new v3 7 _ _
                clear hw
                have HF4 : Hid (Fr NoB w1 v4) := (HF3.out.trans hf)
                have RA4 := Lib.hid hr
                have RB4 := Lib.hid (hf.row RB3.out (fun h => h))
                have HA4 : Hid (w1.heap.size ≤ v3.heap.size) := (HF3.out).size
                have HNE : Hid (v2.heap.size ≠ v3.heap.size) := fun e => by have := World.rowIs.lt RB3.out; omega
                clear hf hr
                refine wpAnyH_ready (rs := [7]) (by kernel_rfl) (by simp) ?_
                refine AllReadyH.cons (by simp only [List.getElem?_toArray, List.getElem?_cons_succ, List.getElem?_cons_zero]; rfl) (fun K hK => ?_) AllReadyH.nil
                · go_simp
                  refine (IH1.out _ HF4.out).mono ?_
                  rintro e v5 ⟨rfl, hf⟩
                  have HF5 := Lib.hid (HF4.out.trans hf)
                  have RA5 := Lib.hid (hf.row RA4.out (fun h => h))
                  have RB5 := Lib.hid (hf.row RB4.out (fun h => h))
                  clear hf
                  (try go_wp2_with fail)
                  refine hK.out _ _ trivial (fun hHeld => ?_)
                  clear hK K
                  (try simp only [Act.put, List.setIfInBounds_toArray, List.set_cons_zero, List.set_cons_succ])
                  have HAB : Hid (v3.heap.size ≠ v2.heap.size) := fun e => HNE.out e.symm
                  have HGA : Hid (w1.heap.size ≤ v3.heap.size) := HA4.out
                  have HGB : Hid (w1.heap.size ≤ v2.heap.size) := HB3.out
                  have HRA : Hid (World.rowIs v5 v3.heap.size 81 7 (fun _ => .int .i64 0)) := RA5
                  have HRB : Hid (World.rowIs v5 v2.heap.size 81 7 (fun _ => .int .i64 0)) := RB5
                  have HFF : Hid (Fr NoB w1 v5) := HF5
                  refine wpAnyH_ready (rs := [10]) (by kernel_rfl) (by simp) ?_
                  refine AllReadyH.cons (by simp only [List.getElem?_toArray, List.getElem?_cons_succ, List.getElem?_cons_zero]; rfl) (fun K hK => ?_) AllReadyH.nil
                  refine step_store7 (by rfl) 81 (.tmp 6) (.tmp 33) (by rfl) v3.heap.size #[Value.int .i64 (ua 0), Value.int .i64 (ua 1), Value.int .i64 (ua 2), Value.int .i64 (ua 3), Value.int .i64 (ua 4), Value.int .i64 (ua 5), Value.int .i64 (ua 6)] (by rfl) (by rfl) (there7 HRA.out) (by kernel_rfl) (one7 (Value.int .i64) ua (fun _ => rfl)) ?_
                  refine hK.out _ _ trivial (fun hHeld => ?_)
                  clear hK K
                  (try simp only [Act.put])
                  refine wpAnyH_name fun x1 hw => ?_
                  have hra : x1.rowIs v3.heap.size 81 7 (I ua) := by rw [hw]; exact set7 (A := I ua) HRA.out
                  have hrb : x1.rowIs v2.heap.size 81 7 (fun _ => .int .i64 0) := by rw [hw]; exact set7_other _ HRB.out (fun e => HAB.out e.symm)
                  have hff : Fr NoB w1 x1 := by rw [hw]; exact set7_fr HFF.out HGA.out _ _
                  clear hw
                  have HRA1 := Lib.hid hra; clear hra; have HRB1 := Lib.hid hrb; clear hrb; have HFF1 := Lib.hid hff; clear hff
                  refine wpAnyH_ready (rs := [11]) (by kernel_rfl) (by simp) ?_
                  refine AllReadyH.cons (by simp only [List.getElem?_toArray, List.getElem?_cons_succ, List.getElem?_cons_zero]; rfl) (fun K hK => ?_) AllReadyH.nil
                  refine step_store7 (by rfl) 81 (.tmp 7) (.tmp 37) (by rfl) v2.heap.size #[Value.int .i64 (ub 0), Value.int .i64 (ub 1), Value.int .i64 (ub 2), Value.int .i64 (ub 3), Value.int .i64 (ub 4), Value.int .i64 (ub 5), Value.int .i64 (ub 6)] (by rfl) (by rfl) (there7 HRB1.out) (by kernel_rfl) (one7 (Value.int .i64) ub (fun _ => rfl)) ?_
                  refine hK.out _ _ trivial (fun hHeld => ?_)
                  clear hK K
                  (try simp only [Act.put])
                  refine wpAnyH_name fun x2 hw => ?_
                  have hrb : x2.rowIs v2.heap.size 81 7 (I ub) := by rw [hw]; exact set7 (A := I ub) HRB1.out
                  have hra : x2.rowIs v3.heap.size 81 7 (I ua) := by rw [hw]; exact set7_other _ HRA1.out HAB.out
                  have hff : Fr NoB w1 x2 := by rw [hw]; exact set7_fr HFF1.out HGB.out _ _
                  clear hw
                  have HRA2 := Lib.hid hra; clear hra; have HRB2 := Lib.hid hrb; clear hrb; have HFF2 := Lib.hid hff; clear hff
                  (refine wpAnyH_done (by kernel_rfl) ?_ _)
                  go_wp2_with fail
                  go_meet
                  exact ⟨v3.heap.size, v2.heap.size, rfl, rfl, HAB, HGA, HGB, HRA2, HRB2, HFF2, Lib.hid (HF1.out.trans HFF2.out)⟩
          · go_simp
            (try go_wp2_with fail)
            refine hK.out _ _ trivial (fun hHeld => ?_)
            clear hK K
            (try simp only [Act.put, List.setIfInBounds_toArray, List.set_cons_zero, List.set_cons_succ])
            refine wpAnyH_name fun v2 hw => ?_
            have hf : Fr NoB w1 v2 := by rw [hw]; (repeat (first | exact Fr.refl _ _ | refine Fr.alloc ?_ _ | refine Fr.setNew ?_ (by omega) _ _ | refine Fr.drewN ?_ _ | refine Fr.drew ?_))
            have hr : v2.rowIs w1.heap.size 81 7 (fun _ => .int .i64 0) := by rw [hw]; exact rowIs_new w1 7 _ _
            clear hw
            have HF2 : Hid (Fr NoB w1 v2) := hf
            have RA2 := Lib.hid hr
            have HA2 : Hid (w1.heap.size ≤ w1.heap.size) := (HD1.out).size
            clear hf hr
            refine wpAnyH_ready (rs := [3, 9]) (by kernel_rfl) (by simp) ?_
            refine AllReadyH.cons (by simp only [List.getElem?_toArray, List.getElem?_cons_succ, List.getElem?_cons_zero]; rfl) (fun K hK => ?_) (AllReadyH.cons (by simp only [List.getElem?_toArray, List.getElem?_cons_succ, List.getElem?_cons_zero]; rfl) (fun K hK => ?_) AllReadyH.nil)
            · go_simp
              refine (IH0.out _ HF2.out).mono ?_
              rintro e v3 ⟨rfl, hf⟩
              have HF3 := Lib.hid (HF2.out.trans hf)
              have RA3 := Lib.hid (hf.row RA2.out (fun h => h))
              clear hf
              (try go_wp2_with fail)
              refine hK.out _ _ trivial (fun hHeld => ?_)
              clear hK K
              (try simp only [Act.put, List.setIfInBounds_toArray, List.set_cons_zero, List.set_cons_succ])
              refine wpAnyH_ready (rs := [7, 9]) (by kernel_rfl) (by simp) ?_
              refine AllReadyH.cons (by simp only [List.getElem?_toArray, List.getElem?_cons_succ, List.getElem?_cons_zero]; rfl) (fun K hK => ?_) (AllReadyH.cons (by simp only [List.getElem?_toArray, List.getElem?_cons_succ, List.getElem?_cons_zero]; rfl) (fun K hK => ?_) AllReadyH.nil)
              · go_simp
                refine (IH1.out _ HF3.out).mono ?_
                rintro e v4 ⟨rfl, hf⟩
                have HF4 := Lib.hid (HF3.out.trans hf)
                have RA4 := Lib.hid (hf.row RA3.out (fun h => h))
                clear hf
                (try go_wp2_with fail)
                refine hK.out _ _ trivial (fun hHeld => ?_)
                clear hK K
                (try simp only [Act.put, List.setIfInBounds_toArray, List.set_cons_zero, List.set_cons_succ])
                refine wpAnyH_ready (rs := [9]) (by kernel_rfl) (by simp) ?_
                refine AllReadyH.cons (by simp only [List.getElem?_toArray, List.getElem?_cons_succ, List.getElem?_cons_zero]; rfl) (fun K hK => ?_) AllReadyH.nil
                · go_simp
                  (try go_wp2_with fail)
                  refine hK.out _ _ trivial (fun hHeld => ?_)
                  clear hK K
                  (try simp only [Act.put, List.setIfInBounds_toArray, List.set_cons_zero, List.set_cons_succ])
                  refine wpAnyH_name fun v5 hw => ?_
                  have hf : Fr NoB v4 v5 := by rw [hw]; (repeat (first | exact Fr.refl _ _ | refine Fr.alloc ?_ _ | refine Fr.setNew ?_ (by omega) _ _ | refine Fr.drewN ?_ _ | refine Fr.drew ?_))
                  have hr : v5.rowIs v4.heap.size 81 7 (fun _ => .int .i64 0) := by rw [hw]; exact rowIs_new v4 7 _ _
                  clear hw
                  have HF5 : Hid (Fr NoB w1 v5) := (HF4.out.trans hf)
                  have RB5 := Lib.hid hr
                  have RA5 := Lib.hid (hf.row RA4.out (fun h => h))
                  have HB5 : Hid (w1.heap.size ≤ v4.heap.size) := (HF4.out).size
                  have HNE : Hid (w1.heap.size ≠ v4.heap.size) := fun e => by have := World.rowIs.lt RA4.out; omega
                  clear hf hr
                  have HAB : Hid (w1.heap.size ≠ v4.heap.size) := HNE.out
                  have HGA : Hid (w1.heap.size ≤ w1.heap.size) := HA2.out
                  have HGB : Hid (w1.heap.size ≤ v4.heap.size) := HB5.out
                  have HRA : Hid (World.rowIs v5 w1.heap.size 81 7 (fun _ => .int .i64 0)) := RA5
                  have HRB : Hid (World.rowIs v5 v4.heap.size 81 7 (fun _ => .int .i64 0)) := RB5
                  have HFF : Hid (Fr NoB w1 v5) := HF5
                  refine wpAnyH_ready (rs := [10]) (by kernel_rfl) (by simp) ?_
                  refine AllReadyH.cons (by simp only [List.getElem?_toArray, List.getElem?_cons_succ, List.getElem?_cons_zero]; rfl) (fun K hK => ?_) AllReadyH.nil
                  refine step_store7 (by rfl) 81 (.tmp 6) (.tmp 33) (by rfl) w1.heap.size #[Value.int .i64 (ua 0), Value.int .i64 (ua 1), Value.int .i64 (ua 2), Value.int .i64 (ua 3), Value.int .i64 (ua 4), Value.int .i64 (ua 5), Value.int .i64 (ua 6)] (by rfl) (by rfl) (there7 HRA.out) (by kernel_rfl) (one7 (Value.int .i64) ua (fun _ => rfl)) ?_
                  refine hK.out _ _ trivial (fun hHeld => ?_)
                  clear hK K
                  (try simp only [Act.put])
                  refine wpAnyH_name fun x1 hw => ?_
                  have hra : x1.rowIs w1.heap.size 81 7 (I ua) := by rw [hw]; exact set7 (A := I ua) HRA.out
                  have hrb : x1.rowIs v4.heap.size 81 7 (fun _ => .int .i64 0) := by rw [hw]; exact set7_other _ HRB.out (fun e => HAB.out e.symm)
                  have hff : Fr NoB w1 x1 := by rw [hw]; exact set7_fr HFF.out HGA.out _ _
                  clear hw
                  have HRA1 := Lib.hid hra; clear hra; have HRB1 := Lib.hid hrb; clear hrb; have HFF1 := Lib.hid hff; clear hff
                  refine wpAnyH_ready (rs := [11]) (by kernel_rfl) (by simp) ?_
                  refine AllReadyH.cons (by simp only [List.getElem?_toArray, List.getElem?_cons_succ, List.getElem?_cons_zero]; rfl) (fun K hK => ?_) AllReadyH.nil
                  refine step_store7 (by rfl) 81 (.tmp 7) (.tmp 37) (by rfl) v4.heap.size #[Value.int .i64 (ub 0), Value.int .i64 (ub 1), Value.int .i64 (ub 2), Value.int .i64 (ub 3), Value.int .i64 (ub 4), Value.int .i64 (ub 5), Value.int .i64 (ub 6)] (by rfl) (by rfl) (there7 HRB1.out) (by kernel_rfl) (one7 (Value.int .i64) ub (fun _ => rfl)) ?_
                  refine hK.out _ _ trivial (fun hHeld => ?_)
                  clear hK K
                  (try simp only [Act.put])
                  refine wpAnyH_name fun x2 hw => ?_
                  have hrb : x2.rowIs v4.heap.size 81 7 (I ub) := by rw [hw]; exact set7 (A := I ub) HRB1.out
                  have hra : x2.rowIs w1.heap.size 81 7 (I ua) := by rw [hw]; exact set7_other _ HRA1.out HAB.out
                  have hff : Fr NoB w1 x2 := by rw [hw]; exact set7_fr HFF1.out HGB.out _ _
                  clear hw
                  have HRA2 := Lib.hid hra; clear hra; have HRB2 := Lib.hid hrb; clear hrb; have HFF2 := Lib.hid hff; clear hff
                  (refine wpAnyH_done (by kernel_rfl) ?_ _)
                  go_wp2_with fail
                  go_meet
                  exact ⟨w1.heap.size, v4.heap.size, rfl, rfl, HAB, HGA, HGB, HRA2, HRB2, HFF2, Lib.hid (HF1.out.trans HFF2.out)⟩
              · go_simp
                (try go_wp2_with fail)
                refine hK.out _ _ trivial (fun hHeld => ?_)
                clear hK K
                (try simp only [Act.put, List.setIfInBounds_toArray, List.set_cons_zero, List.set_cons_succ])
                refine wpAnyH_name fun v4 hw => ?_
                have hf : Fr NoB v3 v4 := by rw [hw]; (repeat (first | exact Fr.refl _ _ | refine Fr.alloc ?_ _ | refine Fr.setNew ?_ (by omega) _ _ | refine Fr.drewN ?_ _ | refine Fr.drew ?_))
                have hr : v4.rowIs v3.heap.size 81 7 (fun _ => .int .i64 0) := by rw [hw]; exact rowIs_new v3 7 _ _
                clear hw
                have HF4 : Hid (Fr NoB w1 v4) := (HF3.out.trans hf)
                have RB4 := Lib.hid hr
                have RA4 := Lib.hid (hf.row RA3.out (fun h => h))
                have HB4 : Hid (w1.heap.size ≤ v3.heap.size) := (HF3.out).size
                have HNE : Hid (w1.heap.size ≠ v3.heap.size) := fun e => by have := World.rowIs.lt RA3.out; omega
                clear hf hr
                refine wpAnyH_ready (rs := [7]) (by kernel_rfl) (by simp) ?_
                refine AllReadyH.cons (by simp only [List.getElem?_toArray, List.getElem?_cons_succ, List.getElem?_cons_zero]; rfl) (fun K hK => ?_) AllReadyH.nil
                · go_simp
                  refine (IH1.out _ HF4.out).mono ?_
                  rintro e v5 ⟨rfl, hf⟩
                  have HF5 := Lib.hid (HF4.out.trans hf)
                  have RA5 := Lib.hid (hf.row RA4.out (fun h => h))
                  have RB5 := Lib.hid (hf.row RB4.out (fun h => h))
                  clear hf
                  (try go_wp2_with fail)
                  refine hK.out _ _ trivial (fun hHeld => ?_)
                  clear hK K
                  (try simp only [Act.put, List.setIfInBounds_toArray, List.set_cons_zero, List.set_cons_succ])
                  have HAB : Hid (w1.heap.size ≠ v3.heap.size) := HNE.out
                  have HGA : Hid (w1.heap.size ≤ w1.heap.size) := HA2.out
                  have HGB : Hid (w1.heap.size ≤ v3.heap.size) := HB4.out
                  have HRA : Hid (World.rowIs v5 w1.heap.size 81 7 (fun _ => .int .i64 0)) := RA5
                  have HRB : Hid (World.rowIs v5 v3.heap.size 81 7 (fun _ => .int .i64 0)) := RB5
                  have HFF : Hid (Fr NoB w1 v5) := HF5
                  refine wpAnyH_ready (rs := [10]) (by kernel_rfl) (by simp) ?_
                  refine AllReadyH.cons (by simp only [List.getElem?_toArray, List.getElem?_cons_succ, List.getElem?_cons_zero]; rfl) (fun K hK => ?_) AllReadyH.nil
                  refine step_store7 (by rfl) 81 (.tmp 6) (.tmp 33) (by rfl) w1.heap.size #[Value.int .i64 (ua 0), Value.int .i64 (ua 1), Value.int .i64 (ua 2), Value.int .i64 (ua 3), Value.int .i64 (ua 4), Value.int .i64 (ua 5), Value.int .i64 (ua 6)] (by rfl) (by rfl) (there7 HRA.out) (by kernel_rfl) (one7 (Value.int .i64) ua (fun _ => rfl)) ?_
                  refine hK.out _ _ trivial (fun hHeld => ?_)
                  clear hK K
                  (try simp only [Act.put])
                  refine wpAnyH_name fun x1 hw => ?_
                  have hra : x1.rowIs w1.heap.size 81 7 (I ua) := by rw [hw]; exact set7 (A := I ua) HRA.out
                  have hrb : x1.rowIs v3.heap.size 81 7 (fun _ => .int .i64 0) := by rw [hw]; exact set7_other _ HRB.out (fun e => HAB.out e.symm)
                  have hff : Fr NoB w1 x1 := by rw [hw]; exact set7_fr HFF.out HGA.out _ _
                  clear hw
                  have HRA1 := Lib.hid hra; clear hra; have HRB1 := Lib.hid hrb; clear hrb; have HFF1 := Lib.hid hff; clear hff
                  refine wpAnyH_ready (rs := [11]) (by kernel_rfl) (by simp) ?_
                  refine AllReadyH.cons (by simp only [List.getElem?_toArray, List.getElem?_cons_succ, List.getElem?_cons_zero]; rfl) (fun K hK => ?_) AllReadyH.nil
                  refine step_store7 (by rfl) 81 (.tmp 7) (.tmp 37) (by rfl) v3.heap.size #[Value.int .i64 (ub 0), Value.int .i64 (ub 1), Value.int .i64 (ub 2), Value.int .i64 (ub 3), Value.int .i64 (ub 4), Value.int .i64 (ub 5), Value.int .i64 (ub 6)] (by rfl) (by rfl) (there7 HRB1.out) (by kernel_rfl) (one7 (Value.int .i64) ub (fun _ => rfl)) ?_
                  refine hK.out _ _ trivial (fun hHeld => ?_)
                  clear hK K
                  (try simp only [Act.put])
                  refine wpAnyH_name fun x2 hw => ?_
                  have hrb : x2.rowIs v3.heap.size 81 7 (I ub) := by rw [hw]; exact set7 (A := I ub) HRB1.out
                  have hra : x2.rowIs w1.heap.size 81 7 (I ua) := by rw [hw]; exact set7_other _ HRA1.out HAB.out
                  have hff : Fr NoB w1 x2 := by rw [hw]; exact set7_fr HFF1.out HGB.out _ _
                  clear hw
                  have HRA2 := Lib.hid hra; clear hra; have HRB2 := Lib.hid hrb; clear hrb; have HFF2 := Lib.hid hff; clear hff
                  (refine wpAnyH_done (by kernel_rfl) ?_ _)
                  go_wp2_with fail
                  go_meet
                  exact ⟨w1.heap.size, v3.heap.size, rfl, rfl, HAB, HGA, HGB, HRA2, HRB2, HFF2, Lib.hid (HF1.out.trans HFF2.out)⟩
            · go_simp
              (try go_wp2_with fail)
              refine hK.out _ _ trivial (fun hHeld => ?_)
              clear hK K
              (try simp only [Act.put, List.setIfInBounds_toArray, List.set_cons_zero, List.set_cons_succ])
              refine wpAnyH_name fun v3 hw => ?_
              have hf : Fr NoB v2 v3 := by rw [hw]; (repeat (first | exact Fr.refl _ _ | refine Fr.alloc ?_ _ | refine Fr.setNew ?_ (by omega) _ _ | refine Fr.drewN ?_ _ | refine Fr.drew ?_))
              have hr : v3.rowIs v2.heap.size 81 7 (fun _ => .int .i64 0) := by rw [hw]; exact rowIs_new v2 7 _ _
              clear hw
              have HF3 : Hid (Fr NoB w1 v3) := (HF2.out.trans hf)
              have RB3 := Lib.hid hr
              have RA3 := Lib.hid (hf.row RA2.out (fun h => h))
              have HB3 : Hid (w1.heap.size ≤ v2.heap.size) := (HF2.out).size
              have HNE : Hid (w1.heap.size ≠ v2.heap.size) := fun e => by have := World.rowIs.lt RA2.out; omega
              clear hf hr
              refine wpAnyH_ready (rs := [3]) (by kernel_rfl) (by simp) ?_
              refine AllReadyH.cons (by simp only [List.getElem?_toArray, List.getElem?_cons_succ, List.getElem?_cons_zero]; rfl) (fun K hK => ?_) AllReadyH.nil
              · go_simp
                refine (IH0.out _ HF3.out).mono ?_
                rintro e v4 ⟨rfl, hf⟩
                have HF4 := Lib.hid (HF3.out.trans hf)
                have RA4 := Lib.hid (hf.row RA3.out (fun h => h))
                have RB4 := Lib.hid (hf.row RB3.out (fun h => h))
                clear hf
                (try go_wp2_with fail)
                refine hK.out _ _ trivial (fun hHeld => ?_)
                clear hK K
                (try simp only [Act.put, List.setIfInBounds_toArray, List.set_cons_zero, List.set_cons_succ])
                refine wpAnyH_ready (rs := [7]) (by kernel_rfl) (by simp) ?_
                refine AllReadyH.cons (by simp only [List.getElem?_toArray, List.getElem?_cons_succ, List.getElem?_cons_zero]; rfl) (fun K hK => ?_) AllReadyH.nil
                · go_simp
                  refine (IH1.out _ HF4.out).mono ?_
                  rintro e v5 ⟨rfl, hf⟩
                  have HF5 := Lib.hid (HF4.out.trans hf)
                  have RA5 := Lib.hid (hf.row RA4.out (fun h => h))
                  have RB5 := Lib.hid (hf.row RB4.out (fun h => h))
                  clear hf
                  (try go_wp2_with fail)
                  refine hK.out _ _ trivial (fun hHeld => ?_)
                  clear hK K
                  (try simp only [Act.put, List.setIfInBounds_toArray, List.set_cons_zero, List.set_cons_succ])
                  have HAB : Hid (w1.heap.size ≠ v2.heap.size) := HNE.out
                  have HGA : Hid (w1.heap.size ≤ w1.heap.size) := HA2.out
                  have HGB : Hid (w1.heap.size ≤ v2.heap.size) := HB3.out
                  have HRA : Hid (World.rowIs v5 w1.heap.size 81 7 (fun _ => .int .i64 0)) := RA5
                  have HRB : Hid (World.rowIs v5 v2.heap.size 81 7 (fun _ => .int .i64 0)) := RB5
                  have HFF : Hid (Fr NoB w1 v5) := HF5
                  refine wpAnyH_ready (rs := [10]) (by kernel_rfl) (by simp) ?_
                  refine AllReadyH.cons (by simp only [List.getElem?_toArray, List.getElem?_cons_succ, List.getElem?_cons_zero]; rfl) (fun K hK => ?_) AllReadyH.nil
                  refine step_store7 (by rfl) 81 (.tmp 6) (.tmp 33) (by rfl) w1.heap.size #[Value.int .i64 (ua 0), Value.int .i64 (ua 1), Value.int .i64 (ua 2), Value.int .i64 (ua 3), Value.int .i64 (ua 4), Value.int .i64 (ua 5), Value.int .i64 (ua 6)] (by rfl) (by rfl) (there7 HRA.out) (by kernel_rfl) (one7 (Value.int .i64) ua (fun _ => rfl)) ?_
                  refine hK.out _ _ trivial (fun hHeld => ?_)
                  clear hK K
                  (try simp only [Act.put])
                  refine wpAnyH_name fun x1 hw => ?_
                  have hra : x1.rowIs w1.heap.size 81 7 (I ua) := by rw [hw]; exact set7 (A := I ua) HRA.out
                  have hrb : x1.rowIs v2.heap.size 81 7 (fun _ => .int .i64 0) := by rw [hw]; exact set7_other _ HRB.out (fun e => HAB.out e.symm)
                  have hff : Fr NoB w1 x1 := by rw [hw]; exact set7_fr HFF.out HGA.out _ _
                  clear hw
                  have HRA1 := Lib.hid hra; clear hra; have HRB1 := Lib.hid hrb; clear hrb; have HFF1 := Lib.hid hff; clear hff
                  refine wpAnyH_ready (rs := [11]) (by kernel_rfl) (by simp) ?_
                  refine AllReadyH.cons (by simp only [List.getElem?_toArray, List.getElem?_cons_succ, List.getElem?_cons_zero]; rfl) (fun K hK => ?_) AllReadyH.nil
                  refine step_store7 (by rfl) 81 (.tmp 7) (.tmp 37) (by rfl) v2.heap.size #[Value.int .i64 (ub 0), Value.int .i64 (ub 1), Value.int .i64 (ub 2), Value.int .i64 (ub 3), Value.int .i64 (ub 4), Value.int .i64 (ub 5), Value.int .i64 (ub 6)] (by rfl) (by rfl) (there7 HRB1.out) (by kernel_rfl) (one7 (Value.int .i64) ub (fun _ => rfl)) ?_
                  refine hK.out _ _ trivial (fun hHeld => ?_)
                  clear hK K
                  (try simp only [Act.put])
                  refine wpAnyH_name fun x2 hw => ?_
                  have hrb : x2.rowIs v2.heap.size 81 7 (I ub) := by rw [hw]; exact set7 (A := I ub) HRB1.out
                  have hra : x2.rowIs w1.heap.size 81 7 (I ua) := by rw [hw]; exact set7_other _ HRA1.out HAB.out
                  have hff : Fr NoB w1 x2 := by rw [hw]; exact set7_fr HFF1.out HGB.out _ _
                  clear hw
                  have HRA2 := Lib.hid hra; clear hra; have HRB2 := Lib.hid hrb; clear hrb; have HFF2 := Lib.hid hff; clear hff
                  (refine wpAnyH_done (by kernel_rfl) ?_ _)
                  go_wp2_with fail
                  go_meet
                  exact ⟨w1.heap.size, v2.heap.size, rfl, rfl, HAB, HGA, HGB, HRA2, HRB2, HFF2, Lib.hid (HF1.out.trans HFF2.out)⟩
          · go_simp
            (try go_wp2_with fail)
            refine hK.out _ _ trivial (fun hHeld => ?_)
            clear hK K
            (try simp only [Act.put, List.setIfInBounds_toArray, List.set_cons_zero, List.set_cons_succ])
            refine wpAnyH_name fun v2 hw => ?_
            have hf : Fr NoB w1 v2 := by rw [hw]; (repeat (first | exact Fr.refl _ _ | refine Fr.alloc ?_ _ | refine Fr.setNew ?_ (by omega) _ _ | refine Fr.drewN ?_ _ | refine Fr.drew ?_))
            have hr : v2.rowIs w1.heap.size 81 7 (fun _ => .int .i64 0) := by rw [hw]; exact rowIs_new w1 7 _ _
            clear hw
            have HF2 : Hid (Fr NoB w1 v2) := hf
            have RB2 := Lib.hid hr
            have HB2 : Hid (w1.heap.size ≤ w1.heap.size) := (HD1.out).size
            clear hf hr
            refine wpAnyH_ready (rs := [3, 8]) (by kernel_rfl) (by simp) ?_
            refine AllReadyH.cons (by simp only [List.getElem?_toArray, List.getElem?_cons_succ, List.getElem?_cons_zero]; rfl) (fun K hK => ?_) (AllReadyH.cons (by simp only [List.getElem?_toArray, List.getElem?_cons_succ, List.getElem?_cons_zero]; rfl) (fun K hK => ?_) AllReadyH.nil)
            · go_simp
              refine (IH0.out _ HF2.out).mono ?_
              rintro e v3 ⟨rfl, hf⟩
              have HF3 := Lib.hid (HF2.out.trans hf)
              have RB3 := Lib.hid (hf.row RB2.out (fun h => h))
              clear hf
              (try go_wp2_with fail)
              refine hK.out _ _ trivial (fun hHeld => ?_)
              clear hK K
              (try simp only [Act.put, List.setIfInBounds_toArray, List.set_cons_zero, List.set_cons_succ])
              refine wpAnyH_ready (rs := [7, 8]) (by kernel_rfl) (by simp) ?_
              refine AllReadyH.cons (by simp only [List.getElem?_toArray, List.getElem?_cons_succ, List.getElem?_cons_zero]; rfl) (fun K hK => ?_) (AllReadyH.cons (by simp only [List.getElem?_toArray, List.getElem?_cons_succ, List.getElem?_cons_zero]; rfl) (fun K hK => ?_) AllReadyH.nil)
              · go_simp
                refine (IH1.out _ HF3.out).mono ?_
                rintro e v4 ⟨rfl, hf⟩
                have HF4 := Lib.hid (HF3.out.trans hf)
                have RB4 := Lib.hid (hf.row RB3.out (fun h => h))
                clear hf
                (try go_wp2_with fail)
                refine hK.out _ _ trivial (fun hHeld => ?_)
                clear hK K
                (try simp only [Act.put, List.setIfInBounds_toArray, List.set_cons_zero, List.set_cons_succ])
                refine wpAnyH_ready (rs := [8]) (by kernel_rfl) (by simp) ?_
                refine AllReadyH.cons (by simp only [List.getElem?_toArray, List.getElem?_cons_succ, List.getElem?_cons_zero]; rfl) (fun K hK => ?_) AllReadyH.nil
                · go_simp
                  (try go_wp2_with fail)
                  refine hK.out _ _ trivial (fun hHeld => ?_)
                  clear hK K
                  (try simp only [Act.put, List.setIfInBounds_toArray, List.set_cons_zero, List.set_cons_succ])
                  refine wpAnyH_name fun v5 hw => ?_
                  have hf : Fr NoB v4 v5 := by rw [hw]; (repeat (first | exact Fr.refl _ _ | refine Fr.alloc ?_ _ | refine Fr.setNew ?_ (by omega) _ _ | refine Fr.drewN ?_ _ | refine Fr.drew ?_))
                  have hr : v5.rowIs v4.heap.size 81 7 (fun _ => .int .i64 0) := by rw [hw]; exact rowIs_new v4 7 _ _
                  clear hw
                  have HF5 : Hid (Fr NoB w1 v5) := (HF4.out.trans hf)
                  have RA5 := Lib.hid hr
                  have RB5 := Lib.hid (hf.row RB4.out (fun h => h))
                  have HA5 : Hid (w1.heap.size ≤ v4.heap.size) := (HF4.out).size
                  have HNE : Hid (w1.heap.size ≠ v4.heap.size) := fun e => by have := World.rowIs.lt RB4.out; omega
                  clear hf hr
                  have HAB : Hid (v4.heap.size ≠ w1.heap.size) := fun e => HNE.out e.symm
                  have HGA : Hid (w1.heap.size ≤ v4.heap.size) := HA5.out
                  have HGB : Hid (w1.heap.size ≤ w1.heap.size) := HB2.out
                  have HRA : Hid (World.rowIs v5 v4.heap.size 81 7 (fun _ => .int .i64 0)) := RA5
                  have HRB : Hid (World.rowIs v5 w1.heap.size 81 7 (fun _ => .int .i64 0)) := RB5
                  have HFF : Hid (Fr NoB w1 v5) := HF5
                  refine wpAnyH_ready (rs := [10]) (by kernel_rfl) (by simp) ?_
                  refine AllReadyH.cons (by simp only [List.getElem?_toArray, List.getElem?_cons_succ, List.getElem?_cons_zero]; rfl) (fun K hK => ?_) AllReadyH.nil
                  refine step_store7 (by rfl) 81 (.tmp 6) (.tmp 33) (by rfl) v4.heap.size #[Value.int .i64 (ua 0), Value.int .i64 (ua 1), Value.int .i64 (ua 2), Value.int .i64 (ua 3), Value.int .i64 (ua 4), Value.int .i64 (ua 5), Value.int .i64 (ua 6)] (by rfl) (by rfl) (there7 HRA.out) (by kernel_rfl) (one7 (Value.int .i64) ua (fun _ => rfl)) ?_
                  refine hK.out _ _ trivial (fun hHeld => ?_)
                  clear hK K
                  (try simp only [Act.put])
                  refine wpAnyH_name fun x1 hw => ?_
                  have hra : x1.rowIs v4.heap.size 81 7 (I ua) := by rw [hw]; exact set7 (A := I ua) HRA.out
                  have hrb : x1.rowIs w1.heap.size 81 7 (fun _ => .int .i64 0) := by rw [hw]; exact set7_other _ HRB.out (fun e => HAB.out e.symm)
                  have hff : Fr NoB w1 x1 := by rw [hw]; exact set7_fr HFF.out HGA.out _ _
                  clear hw
                  have HRA1 := Lib.hid hra; clear hra; have HRB1 := Lib.hid hrb; clear hrb; have HFF1 := Lib.hid hff; clear hff
                  refine wpAnyH_ready (rs := [11]) (by kernel_rfl) (by simp) ?_
                  refine AllReadyH.cons (by simp only [List.getElem?_toArray, List.getElem?_cons_succ, List.getElem?_cons_zero]; rfl) (fun K hK => ?_) AllReadyH.nil
                  refine step_store7 (by rfl) 81 (.tmp 7) (.tmp 37) (by rfl) w1.heap.size #[Value.int .i64 (ub 0), Value.int .i64 (ub 1), Value.int .i64 (ub 2), Value.int .i64 (ub 3), Value.int .i64 (ub 4), Value.int .i64 (ub 5), Value.int .i64 (ub 6)] (by rfl) (by rfl) (there7 HRB1.out) (by kernel_rfl) (one7 (Value.int .i64) ub (fun _ => rfl)) ?_
                  refine hK.out _ _ trivial (fun hHeld => ?_)
                  clear hK K
                  (try simp only [Act.put])
                  refine wpAnyH_name fun x2 hw => ?_
                  have hrb : x2.rowIs w1.heap.size 81 7 (I ub) := by rw [hw]; exact set7 (A := I ub) HRB1.out
                  have hra : x2.rowIs v4.heap.size 81 7 (I ua) := by rw [hw]; exact set7_other _ HRA1.out HAB.out
                  have hff : Fr NoB w1 x2 := by rw [hw]; exact set7_fr HFF1.out HGB.out _ _
                  clear hw
                  have HRA2 := Lib.hid hra; clear hra; have HRB2 := Lib.hid hrb; clear hrb; have HFF2 := Lib.hid hff; clear hff
                  (refine wpAnyH_done (by kernel_rfl) ?_ _)
                  go_wp2_with fail
                  go_meet
                  exact ⟨v4.heap.size, w1.heap.size, rfl, rfl, HAB, HGA, HGB, HRA2, HRB2, HFF2, Lib.hid (HF1.out.trans HFF2.out)⟩
              · go_simp
                (try go_wp2_with fail)
                refine hK.out _ _ trivial (fun hHeld => ?_)
                clear hK K
                (try simp only [Act.put, List.setIfInBounds_toArray, List.set_cons_zero, List.set_cons_succ])
                refine wpAnyH_name fun v4 hw => ?_
                have hf : Fr NoB v3 v4 := by rw [hw]; (repeat (first | exact Fr.refl _ _ | refine Fr.alloc ?_ _ | refine Fr.setNew ?_ (by omega) _ _ | refine Fr.drewN ?_ _ | refine Fr.drew ?_))
                have hr : v4.rowIs v3.heap.size 81 7 (fun _ => .int .i64 0) := by rw [hw]; exact rowIs_new v3 7 _ _
                clear hw
                have HF4 : Hid (Fr NoB w1 v4) := (HF3.out.trans hf)
                have RA4 := Lib.hid hr
                have RB4 := Lib.hid (hf.row RB3.out (fun h => h))
                have HA4 : Hid (w1.heap.size ≤ v3.heap.size) := (HF3.out).size
                have HNE : Hid (w1.heap.size ≠ v3.heap.size) := fun e => by have := World.rowIs.lt RB3.out; omega
                clear hf hr
                refine wpAnyH_ready (rs := [7]) (by kernel_rfl) (by simp) ?_
                refine AllReadyH.cons (by simp only [List.getElem?_toArray, List.getElem?_cons_succ, List.getElem?_cons_zero]; rfl) (fun K hK => ?_) AllReadyH.nil
                · go_simp
                  refine (IH1.out _ HF4.out).mono ?_
                  rintro e v5 ⟨rfl, hf⟩
                  have HF5 := Lib.hid (HF4.out.trans hf)
                  have RA5 := Lib.hid (hf.row RA4.out (fun h => h))
                  have RB5 := Lib.hid (hf.row RB4.out (fun h => h))
                  clear hf
                  (try go_wp2_with fail)
                  refine hK.out _ _ trivial (fun hHeld => ?_)
                  clear hK K
                  (try simp only [Act.put, List.setIfInBounds_toArray, List.set_cons_zero, List.set_cons_succ])
                  have HAB : Hid (v3.heap.size ≠ w1.heap.size) := fun e => HNE.out e.symm
                  have HGA : Hid (w1.heap.size ≤ v3.heap.size) := HA4.out
                  have HGB : Hid (w1.heap.size ≤ w1.heap.size) := HB2.out
                  have HRA : Hid (World.rowIs v5 v3.heap.size 81 7 (fun _ => .int .i64 0)) := RA5
                  have HRB : Hid (World.rowIs v5 w1.heap.size 81 7 (fun _ => .int .i64 0)) := RB5
                  have HFF : Hid (Fr NoB w1 v5) := HF5
                  refine wpAnyH_ready (rs := [10]) (by kernel_rfl) (by simp) ?_
                  refine AllReadyH.cons (by simp only [List.getElem?_toArray, List.getElem?_cons_succ, List.getElem?_cons_zero]; rfl) (fun K hK => ?_) AllReadyH.nil
                  refine step_store7 (by rfl) 81 (.tmp 6) (.tmp 33) (by rfl) v3.heap.size #[Value.int .i64 (ua 0), Value.int .i64 (ua 1), Value.int .i64 (ua 2), Value.int .i64 (ua 3), Value.int .i64 (ua 4), Value.int .i64 (ua 5), Value.int .i64 (ua 6)] (by rfl) (by rfl) (there7 HRA.out) (by kernel_rfl) (one7 (Value.int .i64) ua (fun _ => rfl)) ?_
                  refine hK.out _ _ trivial (fun hHeld => ?_)
                  clear hK K
                  (try simp only [Act.put])
                  refine wpAnyH_name fun x1 hw => ?_
                  have hra : x1.rowIs v3.heap.size 81 7 (I ua) := by rw [hw]; exact set7 (A := I ua) HRA.out
                  have hrb : x1.rowIs w1.heap.size 81 7 (fun _ => .int .i64 0) := by rw [hw]; exact set7_other _ HRB.out (fun e => HAB.out e.symm)
                  have hff : Fr NoB w1 x1 := by rw [hw]; exact set7_fr HFF.out HGA.out _ _
                  clear hw
                  have HRA1 := Lib.hid hra; clear hra; have HRB1 := Lib.hid hrb; clear hrb; have HFF1 := Lib.hid hff; clear hff
                  refine wpAnyH_ready (rs := [11]) (by kernel_rfl) (by simp) ?_
                  refine AllReadyH.cons (by simp only [List.getElem?_toArray, List.getElem?_cons_succ, List.getElem?_cons_zero]; rfl) (fun K hK => ?_) AllReadyH.nil
                  refine step_store7 (by rfl) 81 (.tmp 7) (.tmp 37) (by rfl) w1.heap.size #[Value.int .i64 (ub 0), Value.int .i64 (ub 1), Value.int .i64 (ub 2), Value.int .i64 (ub 3), Value.int .i64 (ub 4), Value.int .i64 (ub 5), Value.int .i64 (ub 6)] (by rfl) (by rfl) (there7 HRB1.out) (by kernel_rfl) (one7 (Value.int .i64) ub (fun _ => rfl)) ?_
                  refine hK.out _ _ trivial (fun hHeld => ?_)
                  clear hK K
                  (try simp only [Act.put])
                  refine wpAnyH_name fun x2 hw => ?_
                  have hrb : x2.rowIs w1.heap.size 81 7 (I ub) := by rw [hw]; exact set7 (A := I ub) HRB1.out
                  have hra : x2.rowIs v3.heap.size 81 7 (I ua) := by rw [hw]; exact set7_other _ HRA1.out HAB.out
                  have hff : Fr NoB w1 x2 := by rw [hw]; exact set7_fr HFF1.out HGB.out _ _
                  clear hw
                  have HRA2 := Lib.hid hra; clear hra; have HRB2 := Lib.hid hrb; clear hrb; have HFF2 := Lib.hid hff; clear hff
                  (refine wpAnyH_done (by kernel_rfl) ?_ _)
                  go_wp2_with fail
                  go_meet
                  exact ⟨v3.heap.size, w1.heap.size, rfl, rfl, HAB, HGA, HGB, HRA2, HRB2, HFF2, Lib.hid (HF1.out.trans HFF2.out)⟩
            · go_simp
              (try go_wp2_with fail)
              refine hK.out _ _ trivial (fun hHeld => ?_)
              clear hK K
              (try simp only [Act.put, List.setIfInBounds_toArray, List.set_cons_zero, List.set_cons_succ])
              refine wpAnyH_name fun v3 hw => ?_
              have hf : Fr NoB v2 v3 := by rw [hw]; (repeat (first | exact Fr.refl _ _ | refine Fr.alloc ?_ _ | refine Fr.setNew ?_ (by omega) _ _ | refine Fr.drewN ?_ _ | refine Fr.drew ?_))
              have hr : v3.rowIs v2.heap.size 81 7 (fun _ => .int .i64 0) := by rw [hw]; exact rowIs_new v2 7 _ _
              clear hw
              have HF3 : Hid (Fr NoB w1 v3) := (HF2.out.trans hf)
              have RA3 := Lib.hid hr
              have RB3 := Lib.hid (hf.row RB2.out (fun h => h))
              have HA3 : Hid (w1.heap.size ≤ v2.heap.size) := (HF2.out).size
              have HNE : Hid (w1.heap.size ≠ v2.heap.size) := fun e => by have := World.rowIs.lt RB2.out; omega
              clear hf hr
              refine wpAnyH_ready (rs := [3]) (by kernel_rfl) (by simp) ?_
              refine AllReadyH.cons (by simp only [List.getElem?_toArray, List.getElem?_cons_succ, List.getElem?_cons_zero]; rfl) (fun K hK => ?_) AllReadyH.nil
              · go_simp
                refine (IH0.out _ HF3.out).mono ?_
                rintro e v4 ⟨rfl, hf⟩
                have HF4 := Lib.hid (HF3.out.trans hf)
                have RA4 := Lib.hid (hf.row RA3.out (fun h => h))
                have RB4 := Lib.hid (hf.row RB3.out (fun h => h))
                clear hf
                (try go_wp2_with fail)
                refine hK.out _ _ trivial (fun hHeld => ?_)
                clear hK K
                (try simp only [Act.put, List.setIfInBounds_toArray, List.set_cons_zero, List.set_cons_succ])
                refine wpAnyH_ready (rs := [7]) (by kernel_rfl) (by simp) ?_
                refine AllReadyH.cons (by simp only [List.getElem?_toArray, List.getElem?_cons_succ, List.getElem?_cons_zero]; rfl) (fun K hK => ?_) AllReadyH.nil
                · go_simp
                  refine (IH1.out _ HF4.out).mono ?_
                  rintro e v5 ⟨rfl, hf⟩
                  have HF5 := Lib.hid (HF4.out.trans hf)
                  have RA5 := Lib.hid (hf.row RA4.out (fun h => h))
                  have RB5 := Lib.hid (hf.row RB4.out (fun h => h))
                  clear hf
                  (try go_wp2_with fail)
                  refine hK.out _ _ trivial (fun hHeld => ?_)
                  clear hK K
                  (try simp only [Act.put, List.setIfInBounds_toArray, List.set_cons_zero, List.set_cons_succ])
                  have HAB : Hid (v2.heap.size ≠ w1.heap.size) := fun e => HNE.out e.symm
                  have HGA : Hid (w1.heap.size ≤ v2.heap.size) := HA3.out
                  have HGB : Hid (w1.heap.size ≤ w1.heap.size) := HB2.out
                  have HRA : Hid (World.rowIs v5 v2.heap.size 81 7 (fun _ => .int .i64 0)) := RA5
                  have HRB : Hid (World.rowIs v5 w1.heap.size 81 7 (fun _ => .int .i64 0)) := RB5
                  have HFF : Hid (Fr NoB w1 v5) := HF5
                  refine wpAnyH_ready (rs := [10]) (by kernel_rfl) (by simp) ?_
                  refine AllReadyH.cons (by simp only [List.getElem?_toArray, List.getElem?_cons_succ, List.getElem?_cons_zero]; rfl) (fun K hK => ?_) AllReadyH.nil
                  refine step_store7 (by rfl) 81 (.tmp 6) (.tmp 33) (by rfl) v2.heap.size #[Value.int .i64 (ua 0), Value.int .i64 (ua 1), Value.int .i64 (ua 2), Value.int .i64 (ua 3), Value.int .i64 (ua 4), Value.int .i64 (ua 5), Value.int .i64 (ua 6)] (by rfl) (by rfl) (there7 HRA.out) (by kernel_rfl) (one7 (Value.int .i64) ua (fun _ => rfl)) ?_
                  refine hK.out _ _ trivial (fun hHeld => ?_)
                  clear hK K
                  (try simp only [Act.put])
                  refine wpAnyH_name fun x1 hw => ?_
                  have hra : x1.rowIs v2.heap.size 81 7 (I ua) := by rw [hw]; exact set7 (A := I ua) HRA.out
                  have hrb : x1.rowIs w1.heap.size 81 7 (fun _ => .int .i64 0) := by rw [hw]; exact set7_other _ HRB.out (fun e => HAB.out e.symm)
                  have hff : Fr NoB w1 x1 := by rw [hw]; exact set7_fr HFF.out HGA.out _ _
                  clear hw
                  have HRA1 := Lib.hid hra; clear hra; have HRB1 := Lib.hid hrb; clear hrb; have HFF1 := Lib.hid hff; clear hff
                  refine wpAnyH_ready (rs := [11]) (by kernel_rfl) (by simp) ?_
                  refine AllReadyH.cons (by simp only [List.getElem?_toArray, List.getElem?_cons_succ, List.getElem?_cons_zero]; rfl) (fun K hK => ?_) AllReadyH.nil
                  refine step_store7 (by rfl) 81 (.tmp 7) (.tmp 37) (by rfl) w1.heap.size #[Value.int .i64 (ub 0), Value.int .i64 (ub 1), Value.int .i64 (ub 2), Value.int .i64 (ub 3), Value.int .i64 (ub 4), Value.int .i64 (ub 5), Value.int .i64 (ub 6)] (by rfl) (by rfl) (there7 HRB1.out) (by kernel_rfl) (one7 (Value.int .i64) ub (fun _ => rfl)) ?_
                  refine hK.out _ _ trivial (fun hHeld => ?_)
                  clear hK K
                  (try simp only [Act.put])
                  refine wpAnyH_name fun x2 hw => ?_
                  have hrb : x2.rowIs w1.heap.size 81 7 (I ub) := by rw [hw]; exact set7 (A := I ub) HRB1.out
                  have hra : x2.rowIs v2.heap.size 81 7 (I ua) := by rw [hw]; exact set7_other _ HRA1.out HAB.out
                  have hff : Fr NoB w1 x2 := by rw [hw]; exact set7_fr HFF1.out HGB.out _ _
                  clear hw
                  have HRA2 := Lib.hid hra; clear hra; have HRB2 := Lib.hid hrb; clear hrb; have HFF2 := Lib.hid hff; clear hff
                  (refine wpAnyH_done (by kernel_rfl) ?_ _)
                  go_wp2_with fail
                  go_meet
                  exact ⟨v2.heap.size, w1.heap.size, rfl, rfl, HAB, HGA, HGB, HRA2, HRB2, HFF2, Lib.hid (HF1.out.trans HFF2.out)⟩
      case rest =>
        obtain ⟨g6, g7, rfl, rfl, _, h6, h7, hA, hB, hf1, hf⟩ := hcut
        have hl3 := World.rowIs.lt HR3.out
        have hl2 := World.rowIs.lt HR2.out
        have hst : PlRel 81 P w.heap.size (w.heap.size + 1) w (.int .i64 ((0 : Nat) : Int)) wc := ⟨0, by omega, rfl, (hf1.out.row HR3.out (fun h => h)).congr (fun j _ => by unfold I; dsimp only; rw [if_neg (by omega)]), hf1.out.row HR2.out (fun h => h), hf⟩
        have HST := Lib.hid hst
        have HLT : Hid (w.heap.size + 1 < g6 ∧ w.heap.size + 1 < g7) := ⟨by have := h6.out; omega, by have := h7.out; omega⟩
        clear hst h6 h7 hf1 hf hl3 hl2
        go_wp2
        go_loopw [8] (fun i wr => PlRel 81 P w.heap.size (w.heap.size + 1) w i wr ∧ Hid (wr.rowIs g6 81 7 (I ua)) ∧ Hid (wr.rowIs g7 81 7 (I ub))) (fun i _ => 7 - (intOf i).toNat)
        case atStart => exact ⟨HST.out, hA, hB⟩
        case round =>
          obtain ⟨⟨k, hk, rfl, h3, h2, hf⟩, h6, h7⟩ := hrel
          by_cases hk7 : k < 7
          · have c3 := World.rowIs.cell h3.out hk7
            have f3 := World.rowIs.frozen h3.out k
            have c6 := World.rowIs.cell h6.out hk7
            have c7 := World.rowIs.cell h7.out hk7
            unfold I at c3 c6 c7
            have hba := HBA.out k
            have hbb := HBB.out k
            have hws := IntWalk.i64_in (ua k + ub k) (by omega)
            have HNX := Lib.hid (PlRel.next hk7 h3.out h2.out hf.out (by omega) (by omega) (ua k + ub k) (show ua k + ub k = P k by rw [HPE.out]))
            have hfo := (Fr.refl (OneB (w.heap.size + 1)) wr).set1 k (.int .i64 (ua k + ub k))
            have H6 := Lib.hid (hfo.row h6.out (fun e => by unfold OneB at e; have := HLT.out.1; omega))
            have H7 := Lib.hid (hfo.row h7.out (fun e => by unfold OneB at e; have := HLT.out.2; omega))
            generalize ua k = xa at *
            generalize ub k = xb at *
            clear hfo h6 h7 HST
            go_wp2
            go_region
            go_wp2
            go_roundw
            case rel => exact ⟨HNX.out.drew, H6, H7⟩
            case measure => (simp [intOf]; try omega)
          · have h3' : Hid (wr.rowIs (w.heap.size + 1) 81 7 (I P)) := h3.out.congr (fun j hj => by unfold I; dsimp only; rw [if_pos (by omega)])
            clear h3 HST
            go_wp2_with fail
            go_meet
            exact ⟨h3', h2, hf⟩
  case rest =>
    clear e0 ht
    obtain ⟨h3, h2, hf⟩ := hcut
    have q0 := World.rowIs.cell h3.out (show 0 < 7 by omega)
    have q1 := World.rowIs.cell h3.out (show 1 < 7 by omega)
    have q2 := World.rowIs.cell h3.out (show 2 < 7 by omega)
    have q3 := World.rowIs.cell h3.out (show 3 < 7 by omega)
    have q4 := World.rowIs.cell h3.out (show 4 < 7 by omega)
    have q5 := World.rowIs.cell h3.out (show 5 < 7 by omega)
    have q6 := World.rowIs.cell h3.out (show 6 < 7 by omega)
    unfold I at q0 q1 q2 q3 q4 q5 q6
    have hl3 := World.rowIs.lt h3.out
    have hl2 := World.rowIs.lt h2.out
    go_upto_region 15 with fail
    refine wp_name fun w5 hw => ?_
    have hr9 : w5.rowIs wc.heap.size 81 7 (I P) := by rw [hw]; exact row7i wc 81 P
    have hF : Fr NoB wc w5 := by rw [hw]; (repeat (first | exact Fr.refl _ _ | refine Fr.alloc ?_ _ | refine Fr.setNew ?_ (by omega) _ _ | refine Fr.drewN ?_ _ | refine Fr.drew ?_))
    have hcs : CsAt 81 w.heap.size (w.heap.size + 1) wc.heap.size P (og P 0 0) w w5 :=
      ⟨hF.row h3.out (fun h => h), hr9.congr (fun j _ => by unfold I og; rw [if_neg (by omega)]; split <;> rfl), hF.row h2.out (fun h => h), by omega, by omega, hf.out.size, Nat.le_refl _, hf.out.trans hF⟩
    have HCS := Lib.hid hcs
    clear hw hr9 hF hcs h3 h2 q0 q1 q2 q3 q4 q5 q6 hl3 hl2
    go_wp2
    go_loopw [10] (fun i wr => Cs3 81 P w.heap.size (w.heap.size + 1) wc.heap.size w i wr) (fun i _ => 7 - (intOf i).toNat)
    case atStart => exact ⟨0, by omega, rfl, HCS⟩
    case round =>
      obtain ⟨k, hk, rfl, hcs⟩ := hrel
      by_cases hk7 : k < 7
      · clear HCS
        go_wp2
        go_loopw [11] (fun i wx => Cs4 81 P w.heap.size (w.heap.size + 1) wc.heap.size k w i wx) (fun i _ => 7 - (intOf i).toNat)
        case atStart => exact ⟨0, by omega, rfl, hcs⟩
        case round =>
          obtain ⟨h, hh7, rfl, hcs4⟩ := hrel
          obtain ⟨wx, rfl⟩ : ∃ W : World, W = wr := ⟨_, rfl⟩
          by_cases hh : h < 7
          · have c3 := World.rowIs.cell hcs4.out.r3 hh
            have c9 := World.rowIs.cell hcs4.out.r9 hk7
            have f9 := World.rowIs.frozen hcs4.out.r9 k
            unfold I at c3 c9
            have hpb := HPB.out h
            have hwp := IntWalk.i64_in (1 + P h) (by omega)
            by_cases hv : 1 + P h < og P k h k
            · have hvb : decide (1 + P h < og P k h k) = true := decide_eq_true hv
              have HNX := Lib.hid (fun n => Cs4.next hh (hcs4.out.drewN n) hv)
              generalize og P k h k = y at *
              generalize P h = z at *
              clear hcs
              go_wp2
              go_quiet (fail)
              go_wp2
              go_roundw
              case rel => exact HNX.out _
              case measure => (simp [intOf]; try omega)
            · have hvb : decide (1 + P h < og P k h k) = false := decide_eq_false hv
              have HNX := Lib.hid (fun n => Cs4.skip hh (hcs4.out.drewN n) hv)
              generalize og P k h k = y at *
              generalize P h = z at *
              clear hcs hv
              go_wp2
              go_quiet (fail)
              go_wp2
              go_roundw
              case rel => exact HNX.out _
              case measure => (simp [intOf]; try omega)
          · have e : h = 7 := by omega
            have hn : Hid (CsAt 81 w.heap.size (w.heap.size + 1) wc.heap.size P (og P (k + 1) 0) w wx) := by rw [e] at hcs4; exact hcs4.out.congr (fun j _ => og_next P k j)
            clear e hcs4 hcs
            go_wp2
            go_roundw
            case rel => exact ⟨k + 1, by omega, by go_num, hn⟩
            case measure => (simp [intOf]; try omega)
      · have e : k = 7 := by omega
        have hcs7 : Hid (CsAt 81 w.heap.size (w.heap.size + 1) wc.heap.size P (og P 7 0) w wr) := by rw [e] at hcs; exact hcs
        clear e hcs HCS
        have q0 := World.rowIs.cell hcs7.out.r9 (show 0 < 7 by omega)
        have q1 := World.rowIs.cell hcs7.out.r9 (show 1 < 7 by omega)
        have q2 := World.rowIs.cell hcs7.out.r9 (show 2 < 7 by omega)
        have q3 := World.rowIs.cell hcs7.out.r9 (show 3 < 7 by omega)
        have q4 := World.rowIs.cell hcs7.out.r9 (show 4 < 7 by omega)
        have q5 := World.rowIs.cell hcs7.out.r9 (show 5 < 7 by omega)
        have q6 := World.rowIs.cell hcs7.out.r9 (show 6 < 7 by omega)
        have p0 := World.rowIs.cell hcs7.out.r2 (show 0 < 7 by omega)
        have p1 := World.rowIs.cell hcs7.out.r2 (show 1 < 7 by omega)
        have p2 := World.rowIs.cell hcs7.out.r2 (show 2 < 7 by omega)
        have p3 := World.rowIs.cell hcs7.out.r2 (show 3 < 7 by omega)
        have p4 := World.rowIs.cell hcs7.out.r2 (show 4 < 7 by omega)
        have p5 := World.rowIs.cell hcs7.out.r2 (show 5 < 7 by omega)
        have p6 := World.rowIs.cell hcs7.out.r2 (show 6 < 7 by omega)
        have f0 := World.rowIs.frozen hcs7.out.r2 0
        have f1 := World.rowIs.frozen hcs7.out.r2 1
        have f2 := World.rowIs.frozen hcs7.out.r2 2
        have f3 := World.rowIs.frozen hcs7.out.r2 3
        have f4 := World.rowIs.frozen hcs7.out.r2 4
        have f5 := World.rowIs.frozen hcs7.out.r2 5
        have f6 := World.rowIs.frozen hcs7.out.r2 6
        unfold I at q0 q1 q2 q3 q4 q5 q6
        generalize og P 7 0 = F at *
        go_wp2
        refine bodyPost_ret (v := seven (I F)) ?_ rfl ?_
        · refine ret7 (f := I F) Try.results42 _ _ w.heap.size 81 _ rfl ?_ Try.underlying81 rfl (by kernel_rfl)
          exact set7 (A := I F) hcs7.out.r2
        · exact ⟨by rw [HEQ.out], set7_fr hcs7.out.fr (Nat.le_refl _) [.int .i64 (F 0), .int .i64 (F 1), .int .i64 (F 2), .int .i64 (F 3), .int .i64 (F 4), .int .i64 (F 5), .int .i64 (F 6)] 0⟩
theorem cs_any : ∀ d, CsSaid d
  | 0 => cs_step 0 (fun e h => by omega)
  | d + 1 => cs_step (d + 1) (fun e h => by
      have : e = d := by omega
      rw [this]
      exact cs_any d)
theorem index7_0 (a b c d e f g : Int) (w : World) : (Instr.index 81 (.agg #[.int .i64 a, .int .i64 b, .int .i64 c, .int .i64 d, .int .i64 e, .int .i64 f, .int .i64 g]) (.int .i64 0)).run Try.prog w = .ok (.int .i64 a) w := by kernel_rfl
set_option maxRecDepth 100000 in
set_option maxHeartbeats 4000000 in
/-- How few routes are enough. -/
theorem Fewest_any (a : Option Addr) (c : Nat) (L : List Tb.Rt) (w : World) (hw : Tb.Wf L) (hr : RdL w a (Tb.allOf L)) (hc : 256 ≤ c) (hc63 : c ≤ 9223372036854775807) :
    Calls Try.prog 17 #[.slice a 256 c] w (IntFr ((Tb.few L).length : Nat) w) := by
  have h := cs_any 8 ⟨0, 0⟩ (Tb.allOf L) a c w (Tb.fit_allOf L) (Tb.allOf_hops hw) hr (by rw [Tb.allOf_len]; exact hc) hc63
  rw [Tb.allOf_len] at h
  have hz := Tb.few_cnts hw
  unfold seven I at h
  rw [hz] at h
  generalize Tb.cnts 8 (Tb.allOf L) = F at *
  have HCN := Lib.hid h; clear h
  clear hz
  go_enter Try.func17, Try.ntmps17
  go_wp2_with fail
  refine HCN.out.mono ?_
  rintro e w1 ⟨rfl, hf⟩
  have HF := Lib.hid hf
  clear hf
  have hix := fun W => index7_0 ((Tb.few L).length : Nat) (F 1) (F 2) (F 3) (F 4) (F 5) (F 6) W
  go_wp2
  go_ret
  exact ⟨rfl, HF.out⟩
end Go.Proofs.Ytdkkeaegmmepfaa
