/- Walks: slices.Delete of one route. -/
import Derived.Test.YtffoilacaffdgaaGreatDoorB6
set_option maxRecDepth 100000
set_option maxHeartbeats 8000000
namespace Go.Proofs.YtffoilacaffdgaaGreatDoor
open Go.RowKit Go.Deep
theorem run_clear_routes (w : World) (ty : TypeId) (b o c : Nat) (hc : ∀ j, j < 3 → (w.cell? ⟨b, o + j, none⟩).isSome = true) (hf : ∀ j, j < 3 → w.frozen? ⟨b, o + j, none⟩ = false) :
  (Builtin.clear_ #[68] ty #[.slice (some ⟨b, o, none⟩) 1 c]).run Tryz.prog w = .ok (.tuple #[]) (w.setCells b o [.int .i64 0, .int .i64 0, .int .i64 0]) := by
 have hv : ∀ w, (zeroValue 134).run Tryz.prog w = .ok (.agg #[.int .i64 0, .int .i64 0, .int .i64 0]) w := by intro w; kernel_rfl
 have hst := run_storeCells_cells (P := Tryz.prog) b o [.int .i64 0, .int .i64 0, .int .i64 0] 0 w (by simpa using hc) (by simpa using hf) (by intro v hv'; simp at hv'; subst hv'; rfl)
 simp only [Nat.add_zero] at hst
 have hzc : (Builtin.zeroCells (Value.agg #[.int .i64 0, .int .i64 0, .int .i64 0]).cells 1).toList = [.int .i64 0, .int .i64 0, .int .i64 0] := by kernel_rfl
 have hst' : Sem.run Tryz.prog (storeCells ⟨b, o, none⟩ [.int .i64 0, .int .i64 0, .int .i64 0]) w = .ok () (w.setCells b o [.int .i64 0, .int .i64 0, .int .i64 0]) := hst
 simp [Builtin.clear_, run_underlying Tryz.underlying68, hv, hzc]
 rw [hst']
 rfl
def SlRN (w : World) (base : Nat) (v : Value) (n : Nat) (xs : List Int) : Prop := w.ownsRow base 134 3 v n (xs.map (Value.int .i64))
def DelRPost (g cap n : Nat) (xs : List Int) (i : Nat) (w : World) (e : Ending) (w' : World) : Prop :=
 e = .returned (.slice (some ⟨g, 0, none⟩) (n - 1) cap) ∧ SlRN w' 0 (.slice (some ⟨g, 0, none⟩) (n - 1) cap) (n - 1) (xs.take (i * 3) ++ xs.drop ((i + 1) * 3)) ∧ Fr (OneB g) w w'
theorem DeleteR_any (g cap n i : Nat) (xs : List Int) (w : World) (hi : i < n) (hn : n ≤ 1000) (h : SlRN w 0 (.slice (some ⟨g, 0, none⟩) n cap) n xs) :
  Calls Tryz.prog 115 #[.slice (some ⟨g, 0, none⟩) n cap, .int .i64 i, .int .i64 (i + 1 : Nat)] w (DelRPost g cap n xs i w) := by
 obtain ⟨hnc, hcm, _, f, hrow, hx⟩ := own_row h
 have hlen := h.1
 have hcm' : cap ≤ 9223372036854775807 := by unfold maxLen at hcm; omega
 clear h hcm
 obtain ⟨m, hm⟩ : ∃ m, m = n - (i + 1) := ⟨_, rfl⟩
 obtain ⟨news, hnews⟩ : ∃ news, news = (xs.map (Value.int .i64)).drop ((i + 1) * 3) := ⟨_, rfl⟩
 have hnl : news.length = m * 3 := by rw [hnews, List.length_drop, hlen]; omega
 have hget : ∀ t, t < m * 3 → news[t]? = some (f ((i + 1) * 3 + t)) := by
  intro t ht;rw [hnews, List.getElem?_drop, hx _ (by omega)]
 have h1c : ∀ u ∈ news, u.oneCell' = true := by
  intro u hu;rw [hnews] at hu
  obtain ⟨y, _, rfl⟩ := List.mem_map.1 (List.mem_of_mem_drop hu)
  rfl
 obtain ⟨A, hA, hsrc⟩ : ∃ A : Addr, (if cap = i + 1 then some (⟨g, 0, none⟩ : Addr) else some ⟨g, (i + 1) * 3, none⟩) = some A ∧ Hid (∀ t u, news[t]? = some u → w.drew.cell? (A.add t) = some u) := by
  by_cases hci : cap = i + 1
  ·refine ⟨⟨g, 0, none⟩, by simp [hci], fun t u hu => ?_⟩
   have h0 : news.length = 0 := by rw [hnl]; omega
   rw [List.length_eq_zero_iff.1 h0] at hu;simp at hu
  refine ⟨⟨g, (i + 1) * 3, none⟩, by simp [hci], fun t u hu => ?_⟩
  have ht : t < m * 3 := by
   have := (List.getElem?_eq_some_iff.1 hu).1
   rwa [hnl] at this
  rw [hget t ht] at hu;have := rC (World.rowIs.drew hrow) (i := (i + 1) * 3 + t) (by omega)
  rw [Option.some.inj hu] at this;have ea : (⟨g, (i + 1) * 3, none⟩ : Addr).add t = ⟨g, (i + 1) * 3 + t, none⟩ := by unfold Addr.add; split <;> simp_all
  rw [ea]; exact this
 have hspare : Hid (∀ j, j < news.length → (w.drew.cell? ⟨g, 0 + i * 3 + j, none⟩).isSome = true ∧ w.drew.frozen? ⟨g, 0 + i * 3 + j, none⟩ = false) := by
  intro j hj;rw [hnl] at hj
  have := rC (World.rowIs.drew hrow) (i := 0 + i * 3 + j) (by omega)
  exact ⟨by rw [this]; rfl, rF (World.rowIs.drew hrow) _⟩
 obtain ⟨W1, hW1⟩ : ∃ W1, W1 = w.drew.setCells g (0 + i * 3) news := ⟨_, rfl⟩
 have hrow1 := rowIs_setCells news (0 + i * 3) _ _ (World.rowIs.drew hrow)
 rw [← hW1] at hrow1
 have hf1 : Fr (OneB g) w W1 := by rw [hW1]; exact Fr.setCells (S := OneB g) (show OneB g g from rfl) _ _ (Fr.refl _ _).drew
 have hcl : ∀ ty, (Builtin.clear_ #[68] ty #[.slice (some ⟨g, (i + m) * 3, none⟩) (n - (i + m)) (cap - (i + m))]).run Tryz.prog W1 = .ok (.tuple #[]) (W1.setCells g ((i + m) * 3) [.int .i64 0, .int .i64 0, .int .i64 0]) := by
  intro ty;rw [show n - (i + m) = 1 from by omega]
  exact run_clear_routes W1 ty g _ _ (fun j hj => by rw [rC hrow1 (i := (i + m) * 3 + j) (by omega)]; rfl) (fun j hj => rF hrow1 _)
 have hrow2 := rowIs_setCells [.int .i64 0, .int .i64 0, .int .i64 0] ((i + m) * 3) _ _ hrow1
 have hf2 : Fr (OneB g) w (W1.setCells g ((i + m) * 3) [.int .i64 0, .int .i64 0, .int .i64 0]) := Fr.setCells (S := OneB g) (show OneB g g from rfl) _ _ hf1
 have hfin : SlRN (W1.setCells g ((i + m) * 3) [.int .i64 0, .int .i64 0, .int .i64 0]) 0 (.slice (some ⟨g, 0, none⟩) (n - 1) cap) (n - 1) (xs.take (i * 3) ++ xs.drop ((i + 1) * 3)) := by
  have hxl : xs.length = n * 3 := by simpa using hlen
  refine row_own hrow2 (Nat.zero_le _) (by omega) (by unfold maxLen; omega) (by rw [List.length_map, List.length_append, List.length_take, List.length_drop]; omega) (fun k hk => ?_)
  rw [if_neg (by omega)];by_cases hki : k < i * 3
  ·rw [if_neg (by omega), List.map_append, List.getElem?_append_left (by simp; omega), List.map_take, List.getElem?_take, if_pos hki, hx k (by omega)]
  rw [if_pos (by omega), List.map_append, List.getElem?_append_right (by simp; omega), List.map_drop, ← hnews, List.length_map, List.length_take, Nat.min_eq_left (by omega), hget _ (by omega)]
  have := hget (k - (0 + i * 3)) (by omega)
  rw [List.getD_eq_getElem?_getD, this, show (i + 1) * 3 + (k - i * 3) = (i + 1) * 3 + (k - (0 + i * 3)) from by omega];rfl
 have hW : Hid (W1 = w.drew.setCells g (0 + i * 3) news) := hW1
 have hic : i ≤ cap := by omega
 have hjc : i + 1 ≤ cap := by omega
 have him : i + m = n - 1 := by omega
 obtain ⟨i0, hi0, hz0, hz1, hz2⟩ := info_parts Tryz.info134
 have HI0 := zh hi0; clear hi0
 have HNL := zh hnl; have HSP := hspare
 have H1C := zh h1c; clear h1c; have HFIN := zh hfin; clear hfin; have HF2 := zh hf2; clear hf2; have HIM := zh him; clear him
 clear hW1 hrow1 hrow2 hget hnews hnl hx hrow hlen hspare hf1
 have hj1 : (i : Int) + 1 ≤ (n : Int) := by omega
 have hj0 : (0 : Int) ≤ (i : Int) + 1 := by omega
 subst hm
 go_enter Tryz.func115, Tryz.ntmps115
 go_wp2_with fail
 go_region_law (refine step_append_room rfl (.tmp 22) (.tmp 25) 68 rfl 134 i0 3 Tryz.underlying68 HI0.out hz1 g 0 i cap (by simp [Act.eval, Act.put]) A (n - (i + 1)) (cap - (i + 1)) news (by simp [Act.eval, Act.put]) HNL.out hsrc.out H1C.out (by omega) HSP.out ?_; rw [← hW.out])
 go_wp2
 go_ret
 exact ⟨by rw [HIM.out]; rfl, HFIN.out, HF2.out⟩
def DelTPost (v : Value) (L : List Tb.Rt) (i : Nat) (w : World) (e : Ending) (w' : World) : Prop :=
 ∃ v', e = .returned v' ∧ SlR w' 0 v' (L.take i ++ L.drop (i + 1)) ∧ Fr (fun k => v.ownBlock = some k) w w' ∧ v'.ownBlock = v.ownBlock
theorem DeleteT (v : Value) (L : List Tb.Rt) (i : Nat) (w : World) (hl : L.length ≤ 1000) (hi : i < L.length) (h : SlR w 0 v L) :
  Calls Tryz.prog 115 #[v, .int .i64 i, .int .i64 (i + 1 : Nat)] w (DelTPost v L i w) := by
 rcases h.2 with ⟨_, h0⟩ | ⟨g, cap, cur, rfl, h2⟩
 ·omega
 refine (DeleteR_any g cap L.length i (rtI L) w hi hl h).mono ?_
 rintro e w' ⟨rfl, hs, hf⟩
 refine ⟨_, rfl, ?_, hf.mono (fun k _ e => by unfold OneB at e; subst e; rfl), rfl⟩
 unfold SlR
 have hll : (L.take i ++ L.drop (i + 1)).length = L.length - 1 := by rw [List.length_append, List.length_take, List.length_drop]; omega
 rw [hll, rtI_app, ← rtI_take, ← rtI_drop]
 exact hs
end Go.Proofs.YtffoilacaffdgaaGreatDoor
namespace Go.Proofs.YtffoilacaffdgaaGreatDoor.Tb
def stS (p : Pf) (hop : Int) (s : List Rt × Bool) (r : Rt) : List Rt × Bool :=
 if r.p = p then s else if s.2 = false ∧ less p r.p then (s.1 ++ [⟨p, hop⟩] ++ [r], true) else (s.1 ++ [r], s.2)
def soF (L : List Rt) (p : Pf) (hop : Int) : List Rt × Bool := L.foldl (stS p hop) ([], hop == -2)
def soEnd (s : List Rt × Bool) (p : Pf) (hop : Int) : List Rt := if s.2 then s.1 else s.1 ++ [⟨p, hop⟩]
theorem soF_app (L : List Rt) (r : Rt) (p : Pf) (hop : Int) : soF (L ++ [r]) p hop = stS p hop (soF L p hop) r := by unfold soF; rw [List.foldl_append]; rfl
theorem soF_len (p : Pf) (hop : Int) : ∀ (n : Nat) (L : List Rt), L.length = n → (soF L p hop).1.length ≤ 2 * n
 | 0, L, h => by rw [List.length_eq_zero_iff.1 h]; simp [soF]
 | n + 1, L, h => by
  obtain ⟨T, r, rfl⟩ : ∃ T r, L = T ++ [r] := ⟨L.dropLast, L.getLast (by intro e; rw [e] at h; cases h), (List.dropLast_concat_getLast _).symm⟩
  have := soF_len p hop n T (by simpa using h)
  rw [soF_app];unfold stS
  split
  ·omega
  split <;> simp <;> omega
theorem lo_app (A B : List Rt) (p : Pf) : lo (A ++ B) p = lo A p ++ lo B p := by unfold lo; rw [List.filter_append]
theorem hi_app (A B : List Rt) (p : Pf) : hi (A ++ B) p = hi A p ++ hi B p := by unfold hi; rw [List.filter_append]
theorem so_inv {p : Pf} (hp : Tb.ok p) (hop : Int) : ∀ (n : Nat) (L : List Rt), L.length = n → Wf L → soF L p hop = (lo L p ++ (if hi L p = [] then [] else mid p hop) ++ hi L p, decide (hop = -2 ∨ hi L p ≠ []))
 | 0, L, h, _ => by
  rw [List.length_eq_zero_iff.1 h];show (([] : List Rt), hop == -2) = _
  simp only [lo, hi, List.filter_nil, if_true, List.append_nil, ne_eq, not_true, or_false]
  rfl
 | n + 1, L, h, hw => by
  obtain ⟨T, r, rfl⟩ : ∃ T r, L = T ++ [r] := ⟨L.dropLast, L.getLast (by intro e; rw [e] at h; cases h), (List.dropLast_concat_getLast _).symm⟩
  obtain ⟨h1, h2⟩ := wf_app hw
  have hr := (hw.1 r (List.mem_append_right _ (List.mem_singleton.2 rfl))).1
  have ih := so_inv hp hop n T (by simpa using h) h1
  rw [soF_app, ih, lo_app, hi_app];unfold stS
  by_cases e : r.p = p
  ·have e1 : lo [r] p = [] := by unfold lo; rw [List.filter_cons_of_neg (by simp [e, less_irrefl])]; rfl
   have e2 : hi [r] p = [] := by unfold hi; rw [List.filter_cons_of_neg (by simp [e, less_irrefl])]; rfl
   rw [if_pos e, e1, e2, List.append_nil, List.append_nil]
  rw [if_neg e];by_cases l1 : less p r.p
  ·have e1 : lo [r] p = [] := by unfold lo; rw [List.filter_cons_of_neg (by simpa using less_asymm l1)]; rfl
   have e2 : hi [r] p = [r] := by unfold hi; rw [List.filter_cons_of_pos (by simpa using l1)]; rfl
   rw [e1, e2, List.append_nil];by_cases hh : hi T p = []
   ·by_cases h0 : hop = -2
    ·simp [hh, h0, mid]
    simp [hh, h0, mid, l1]
   simp [hh]
  have l2 : less r.p p := by
   by_cases k : less r.p p
   ·exact k
   exact absurd (less_total hr hp k l1) e
  have e1 : lo [r] p = [r] := by unfold lo; rw [List.filter_cons_of_pos (by simpa using l2)]; rfl
  have e2 : hi [r] p = [] := by unfold hi; rw [List.filter_cons_of_neg (by simpa using l1)]; rfl
  have e3 : hi T p = [] := by
   unfold hi;rw [List.filter_eq_nil_iff]
   intro s hs;simpa using less_asymm (less_trans (h2 s hs) l2)
  rw [e1, e2, e3];simp [l1]
theorem so_end {L : List Rt} (h : Wf L) {p : Pf} (hp : Tb.ok p) (hop : Int) : soEnd (soF L p hop) p hop = setOk L p hop := by
 rw [so_inv hp hop L.length L rfl h]
 unfold soEnd setOk
 by_cases h0 : hop = -2
 ·simp [h0, mid]
 by_cases hh : hi L p = []
 ·simp [hh, h0, mid]
 simp [hh]
end Go.Proofs.YtffoilacaffdgaaGreatDoor.Tb
namespace Go.Proofs.YtffoilacaffdgaaGreatDoor
open Go.RowKit Go.Deep
def SoNo (a : Option Addr) (c : Nat) (L : List Tb.Rt) (code : Int) (w : World) (e : Ending) (w' : World) : Prop := e = .returned (.tuple #[.slice a L.length c, .int .i64 code]) ∧ Fr NoB w w'
theorem SetOf_no (a : Option Addr) (c : Nat) (L : List Tb.Rt) (l b hop : Int) (w : World) (hl : L.length ≤ 1000) (ha : Rs w a L) (hc : Tb.setC L ⟨l, b⟩ hop ≠ 0) :
  Calls Tryz.prog 98 #[.slice a L.length c, .agg #[.int .i64 l, .int .i64 b], .int .i64 hop] w (SoNo a c L (Tb.setC L ⟨l, b⟩ hop) w) := by
 have HA := zh ha; clear ha
 by_cases hok : Tb.ok ⟨l, b⟩
 ·have hd := decide_eq_true hok
  by_cases h2 : hop = -2
  ·subst h2;by_cases hg : Tb.get L ⟨l, b⟩ = -2
   ·have e : Tb.setC L ⟨l, b⟩ (-2) = 6 := by unfold Tb.setC; rw [if_neg (by simp [hok]), if_pos ⟨hg, rfl⟩]
    rw [e];have HD := zh hd; clear hd; have HOK := zh hok; clear hok; have HG := zh hg; clear hg
    clear e hc;go_enter Tryz.func98, Tryz.ntmps98
    go_wp2_with fail;refine (IsPrefix_any l b _).mono ?_
    rw [HD.out];rintro e w1 ⟨rfl, hf⟩
    have c0 := cell_fr' hf (box0 w (.int .i64 l) (.int .i64 b) 83) (fun h => h)
    have c1 := cell_fr' hf (box1 w (.int .i64 l) (.int .i64 b) 83) (fun h => h)
    have HF1 := zh (((Fr.refl NoB w).alloc _).trans hf)
    clear hf;go_wp2_with fail
    refine (GetOf_any a c L l b _ hl (HA.out.keep0 HF1.out)).mono ?_
    rw [HG.out];rintro e w3 ⟨rfl, hf⟩
    have c0 := cell_fr' hf c0 nB
    have c1 := cell_fr' hf c1 nB
    have HF3 := zh (HF1.out.trans hf)
    clear hf HF1;go_wp2
    refine bodyPost_ret (v := .tuple #[.slice a L.length c, .int .i64 6]) ?_ rfl (show SoNo a c L 6 w (.returned (.tuple #[.slice a L.length c, .int .i64 6])) _ from ⟨rfl, HF3.out⟩)
    simp [results, Tryz.results98, go_sem]
   exact absurd (by unfold Tb.setC; rw [if_neg (by simp [hok]), if_neg (fun h => hg h.1), if_neg (fun h => hg h.1)]) hc
  have hb : (hop == -2) = false := by simpa using h2
  have hb2 : (hop != -2) = true := by simpa using h2
  by_cases hho : Tb.hopOK hop
  ·have hd2 := decide_eq_true hho
   by_cases hg : Tb.get L ⟨l, b⟩ = -2
   ·by_cases h40 : 40 ≤ L.length
    ·have e : Tb.setC L ⟨l, b⟩ hop = 9 := by unfold Tb.setC; rw [if_neg (by simp [hok, hho]), if_neg (fun h => h2 h.2), if_pos ⟨hg, h40⟩]
     have hb40 : (40 : Int) ≤ (L.length : Int) := by omega
     rw [e];have HD := zh hd; clear hd; have HOK := zh hok; clear hok; have HG := zh hg; clear hg; have HD2 := zh hd2; clear hd2; have HHO := zh hho; clear hho
     clear e hc h2;go_enter Tryz.func98, Tryz.ntmps98
     go_wp2_with fail;refine (IsPrefix_any l b _).mono ?_
     rw [HD.out];rintro e w1 ⟨rfl, hf⟩
     have c0 := cell_fr' hf (box0 w (.int .i64 l) (.int .i64 b) 83) (fun h => h)
     have c1 := cell_fr' hf (box1 w (.int .i64 l) (.int .i64 b) 83) (fun h => h)
     have HF1 := zh (((Fr.refl NoB w).alloc _).trans hf)
     clear hf;go_wp2_with fail
     refine (IsHop_any hop _).mono ?_
     rw [HD2.out];rintro e w2 ⟨rfl, rfl⟩
     go_wp2_with fail;refine (GetOf_any a c L l b _ hl (HA.out.keep0 HF1.out)).mono ?_
     rw [HG.out];rintro e w3 ⟨rfl, hf⟩
     have c0 := cell_fr' hf c0 nB
     have c1 := cell_fr' hf c1 nB
     have HF3 := zh (HF1.out.trans hf)
     clear hf HF1;go_wp2
     refine bodyPost_ret (v := .tuple #[.slice a L.length c, .int .i64 9]) ?_ rfl (show SoNo a c L 9 w (.returned (.tuple #[.slice a L.length c, .int .i64 9])) _ from ⟨rfl, HF3.out⟩)
     simp [results, Tryz.results98, go_sem]
    exact absurd (by unfold Tb.setC; rw [if_neg (by simp [hok, hho]), if_neg (fun h => h2 h.2), if_neg (fun h => h40 h.2)]) hc
   exact absurd (by unfold Tb.setC; rw [if_neg (by simp [hok, hho]), if_neg (fun h => hg h.1), if_neg (fun h => hg h.1)]) hc
  have hd2 := decide_eq_false hho
  have e : Tb.setC L ⟨l, b⟩ hop = 1 := by unfold Tb.setC; rw [if_pos (.inr ⟨h2, hho⟩)]
  rw [e];have HD := zh hd; clear hd; have HOK := zh hok; clear hok; have HD2 := zh hd2; clear hd2; have HHO := zh hho; clear hho
  clear e hc h2;go_enter Tryz.func98, Tryz.ntmps98
  go_wp2_with fail;refine (IsPrefix_any l b _).mono ?_
  rw [HD.out];rintro e w1 ⟨rfl, hf⟩
  have c0 := cell_fr' hf (box0 w (.int .i64 l) (.int .i64 b) 83) (fun h => h)
  have c1 := cell_fr' hf (box1 w (.int .i64 l) (.int .i64 b) 83) (fun h => h)
  have HF1 := zh (((Fr.refl NoB w).alloc _).trans hf)
  clear hf;go_wp2_with fail
  refine (IsHop_any hop _).mono ?_
  rw [HD2.out];rintro e w2 ⟨rfl, rfl⟩
  go_wp2;refine bodyPost_ret (v := .tuple #[.slice a L.length c, .int .i64 1]) ?_ rfl (show SoNo a c L 1 w (.returned (.tuple #[.slice a L.length c, .int .i64 1])) _ from ⟨rfl, HF1.out⟩)
  simp [results, Tryz.results98, go_sem]
 have hd := decide_eq_false hok
 have e : Tb.setC L ⟨l, b⟩ hop = 1 := by unfold Tb.setC; rw [if_pos (.inl hok)]
 rw [e]
 have HD := zh hd; clear hd; have HOK := zh hok; clear hok
 clear e hc
 go_enter Tryz.func98, Tryz.ntmps98
 go_wp2_with fail
 refine (IsPrefix_any l b _).mono ?_
 rw [HD.out]
 rintro e w1 ⟨rfl, hf⟩
 have c0 := cell_fr' hf (box0 w (.int .i64 l) (.int .i64 b) 83) (fun h => h)
 have c1 := cell_fr' hf (box1 w (.int .i64 l) (.int .i64 b) 83) (fun h => h)
 have HF1 := zh (((Fr.refl NoB w).alloc _).trans hf)
 clear hf
 go_wp2
 refine bodyPost_ret (v := .tuple #[.slice a L.length c, .int .i64 1]) ?_ rfl (show SoNo a c L 1 w (.returned (.tuple #[.slice a L.length c, .int .i64 1])) _ from ⟨rfl, HF1.out⟩)
 simp [results, Tryz.results98, go_sem]
theorem cell_alloc {w : World} {b o : Nat} {v : Value} (h : w.cell? ⟨b, o, none⟩ = some v) (ob : Obj) : (w.alloc ob).cell? ⟨b, o, none⟩ = some v := cell_fr' ((Fr.refl NoB w).alloc ob) h (fun h => h)
theorem news3 (w : World) (r : Tb.Rt) : ∀ (j : Nat) (u : Value), (rt3 r)[j]? = some u → (w.alloc (.cells #[.int .i64 r.p.len, .int .i64 r.p.bits, .int .i64 r.hop] 134)).cell? ((⟨w.heap.size, 0, none⟩ : Addr).add j) = some u := by
 intro j u hj
 rw [add_base]
 match j, hj with
 | 0, hj => cases hj; simp
 | 1, hj => cases hj; simp
 | 2, hj => cases hj; simp
theorem base_alloc {w wX : World} (h : w.heap.size ≤ wX.heap.size) (o : Obj) : w.heap.size + 1 ≤ (wX.alloc o).heap.size := by simp; exact h
theorem SlR.app {w : World} {base : Nat} {v : Value} {T : List Tb.Rt} {r : Tb.Rt} (h : w.ownsRow base 134 3 v (T.length + 1) ((rtI T).map (Value.int .i64) ++ rt3 r)) : SlR w base v (T ++ [r]) := by
 unfold SlR
 rw [List.length_append, rtI_app, List.map_append, rtI_one]
 exact h
theorem SlR.keep {S : Nat → Prop} {w w' : World} {base : Nat} {v : Value} {L : List Tb.Rt} (h : SlR w base v L) (hf : Fr S w w') (hS : ∀ g, v.ownBlock = some g → ¬ S g) : SlR w' base v L := own_keep h hf hS
theorem SlR.base {w : World} {b1 b2 : Nat} {v : Value} {L : List Tb.Rt} (h : SlR w b1 v L) (hb : b2 ≤ b1) : SlR w b2 v L := by
 refine ⟨h.1, ?_⟩
 rcases h.2 with h | ⟨g, cap, cur, h1, h2, h3⟩
 ·exact .inl h
 exact .inr ⟨g, cap, cur, h1, Nat.le_trans hb h2, h3⟩
def SoRel (L : List Tb.Rt) (p : Tb.Pf) (hop : Int) (w : World) (o pt i : Value) (wr : World) : Prop :=
 ∃ k : Nat, k ≤ L.length ∧ i = .int .i64 k ∧ SlR wr (w.heap.size + 1) o (Tb.soF (L.take k) p hop).1 ∧ pt = .bool (Tb.soF (L.take k) p hop).2 ∧
  wr.cell? ⟨w.heap.size, 0, none⟩ = some (.int .i64 p.len) ∧ wr.cell? ⟨w.heap.size, 1, none⟩ = some (.int .i64 p.bits) ∧ Fr NoB w wr
def SoOk (L : List Tb.Rt) (p : Tb.Pf) (hop : Int) (w : World) (e : Ending) (w' : World) : Prop :=
 ∃ v, e = .returned (.tuple #[v, .int .i64 0]) ∧ SlR w' w.heap.size v (Tb.soEnd (Tb.soF L p hop) p hop) ∧ Fr NoB w w'
theorem SetOf_del (a : Option Addr) (c : Nat) (L : List Tb.Rt) (l b hop : Int) (w : World) (hl : L.length ≤ 1000) (ha : Rs w a L) (hok : Tb.ok ⟨l, b⟩) (h2 : hop = -2) (hg : Tb.get L ⟨l, b⟩ ≠ -2) :
  Calls Tryz.prog 98 #[.slice a L.length c, .agg #[.int .i64 l, .int .i64 b], .int .i64 hop] w (SoOk L ⟨l, b⟩ hop w) := by
 have hd := decide_eq_true hok
 have hbg : (Tb.get L ⟨l, b⟩ == -2) = false := by simpa using hg
 have HPT : Hid (Value.bool true = .bool (Tb.soF [] ⟨l, b⟩ hop).2) := by subst h2; rfl
 generalize hgv : Tb.get L ⟨l, b⟩ = gv at *
 have HG := zh hgv
 clear hgv
 have hbh : (hop == -2) = true := by simpa using h2
 have hbh2 : (hop != -2) = false := by simpa using h2
 have HD := zh hd; clear hd; have HOK := zh hok; clear hok; have HA := zh ha; clear ha
 clear h2 hg
 go_enter Tryz.func98, Tryz.ntmps98
 go_wp2_with fail
 refine (IsPrefix_any l b _).mono ?_
 rw [HD.out]
 rintro e w1 ⟨rfl, hf⟩
 have c0 := cell_fr' hf (box0 w (.int .i64 l) (.int .i64 b) 83) (fun h => h)
 have c1 := cell_fr' hf (box1 w (.int .i64 l) (.int .i64 b) 83) (fun h => h)
 have HF1 := zh (((Fr.refl NoB w).alloc _).trans hf)
 clear hf
 go_wp2_with fail
 refine (GetOf_any a c L l b _ hl (HA.out.keep0 HF1.out)).mono ?_
 rw [HG.out]
 rintro e w3 ⟨rfl, hf⟩
 have c0 := cell_fr' hf c0 nB
 have c1 := cell_fr' hf c1 nB
 have HF3 := zh (HF1.out.trans hf)
 clear hf HF1
 go_wp2
 go_loopw [9, 10, 11] (fun o pt i wr => SoRel L ⟨l, b⟩ hop w o pt i wr) (fun _ _ i _ => L.length - (intOf i).toNat)
 case atStart => exact ⟨0, by omega, rfl, by rw [List.take_zero]; exact SlR.nil _ _, by rw [List.take_zero]; exact HPT.out, c0, c1, HF3.out⟩
 case round =>
  clear c0 c1 HF3;obtain ⟨k, hk, rfl, ho, rfl, p0, p1, hf⟩ := hrel
  dsimp only at p0 p1;have hbs : w.heap.size < wr.heap.size := World.block_lt_of_cell? wr _ p0
  have HBS := zh hbs;have HF := zh hf; clear hf; have HO := zh ho; clear ho
  clear hbs;have hsl := Tb.soF_len ⟨l, b⟩ hop k (L.take k) (by rw [List.length_take]; omega)
  by_cases hkk : k < L.length
  ·have hblk : ∀ p, a = some p → p.block < w.heap.size := fun p hp => by
    obtain ⟨b0, o0, e, c0, _⟩ := HA.out k hkk
    rw [hp] at e;cases e
    exact World.block_lt_of_cell? w ⟨b0, o0 + k * 3, none⟩ c0
   obtain ⟨b0, o0, rfl, c0, c1, c2⟩ := (HA.out.keep0 HF.out) k hkk
   have hb0 := hblk _ rfl
   dsimp only at hb0;have hst : Tb.soF (L.take (k + 1)) ⟨l, b⟩ hop = Tb.stS ⟨l, b⟩ hop (Tb.soF (L.take k) ⟨l, b⟩ hop) (Tb.nth L k) := by rw [Tb.take_succ hkk, Tb.soF_app]
   generalize hr : Tb.nth L k = r at *;obtain ⟨⟨x, y⟩, z⟩ := r
   generalize hss : Tb.soF (L.take k) ⟨l, b⟩ hop = s at *;obtain ⟨T, pb⟩ := s
   dsimp only at c0 c1 c2 hsl HO ⊢
   have HSL : Hid (T.length ≤ 2000) := by show T.length ≤ 2000; omega
   have HB0 := zh hb0;clear hr hss hblk hb0 hsl
   unfold Tb.stS at hst;dsimp only at hst
   have hki : (k : Int) < (L.length : Int) := by omega
   by_cases q : x = l ∧ y = b
   ·obtain ⟨rfl, rfl⟩ := q
    rw [if_pos rfl] at hst;have HST := zh hst; clear hst
    go_wp2;go_quiet (fail)
    go_wp2;go_roundw
    case rel => exact ⟨k + 1, by omega, by go_num, by rw [HST.out]; exact own_keep HO.out ((Fr.refl NoB _).drewN _) (fun _ _ h => h), by rw [HST.out], p0, p1, HF.out.drewN _⟩
    case measure => simp [intOf]; omega
   rw [if_neg (fun e => q (by simp only [Tb.Pf.mk.injEq] at e; exact e))] at hst
   have hq : (x == l) = false ∨ (x == l) = true ∧ (y == b) = false := by
    by_cases q1 : x = l
    ·exact .inr ⟨by simpa using q1, by simp; exact fun e => q ⟨q1, e⟩⟩
    exact .inl (by simpa using q1)
   clear q;rcases hq with hq | ⟨hq1, hq⟩
   ·cases pb with
    | true =>
     rw [if_neg (by simp)] at hst;have HST := zh hst; clear hst
     go_wp2;go_quiet (fail)
     go_wp2;go_quiet (fail)
     go_upto_region 17 with fail
     refine wp_name fun w3 hw3 => ?_
     have hF : Fr NoB wr w3 := by rw [hw3]; (repeat (first | exact Fr.refl _ _ | refine Fr.alloc ?_ _ | refine Fr.setNew ?_ (by omega) _ _ | refine Fr.drewN ?_ _ | refine Fr.drew ?_))
     have s0 := cell_fr' hF c0 nB
     have s1 := cell_fr' hF c1 nB
     have s2 := cell_fr' hF c2 nB
     have t0 := cell_fr' hF p0 nB
     have t1 := cell_fr' hF p1 nB
     have HF3 := zh (HF.out.trans hF)
     have HO3 := zh (own_keep HO.out hF (fun _ _ h => h))
     clear hw3 hF c0 c1 c2 p0 p1;go_wp2_with (at_builtin; refine app_own rfl _ _ 68 134 3 24 _ rfl Tryz.underlying68 Tryz.info134 rfl (by omega) (w.heap.size + 1) _ _ _ rfl (oA HO3.out _) ⟨w3.heap.size, 0, none⟩ 1 1 (rt3 ⟨⟨x, y⟩, z⟩) rfl rfl (news3 w3 ⟨⟨x, y⟩, z⟩) (rt3_one _) (by have := HSL.out; omega) (by omega) (base_alloc HF3.out.size _) ?_; intro v' w5 hv hf)
     have hv2 : SlR w5 (w.heap.size + 1) v' (T ++ [⟨⟨x, y⟩, z⟩]) := SlR.app (r := ⟨⟨x, y⟩, z⟩) hv
     have hf2 := (HF3.out.alloc _).ownB (oA HO3.out _) (by omega) hf
     have hnb : ∀ g, _ → g ≠ w.heap.size := fun g (h : _ = some g) => by have := (oL HO3.out g h).1; omega
     have t0 := cell_fr' hf (cell_alloc t0 _) (fun h => hnb _ h rfl)
     have t1 := cell_fr' hf (cell_alloc t1 _) (fun h => hnb _ h rfl)
     have HV2 := zh hv2; clear hv2; have HF2 := zh hf2; clear hf2;clear hv hf hnb
     go_wp2;go_roundw
     case rel => exact ⟨k + 1, by omega, by go_num, by rw [HST.out]; exact HV2.out, by rw [HST.out], t0, t1, HF2.out⟩
     case measure => simp [intOf]; omega
    | false =>
     generalize hls : decide (Tb.less ⟨l, b⟩ ⟨x, y⟩) = ls at *;have HLS := zh hls
     clear hls;cases ls with
     | true =>
      rw [if_pos ⟨rfl, of_decide_eq_true HLS.out⟩] at hst;have HST := zh hst; clear hst
      go_wp2;go_quiet (fail)
      go_wp2
      go_region_held3 (fun W => W.cell? ⟨b0, o0 + k * 3, none⟩ = some (.int .i64 x) ∧ W.cell? ⟨b0, o0 + k * 3 + 1, none⟩ = some (.int .i64 y) ∧ W.cell? ⟨w.heap.size, 0, none⟩ = some (.int .i64 l) ∧ W.cell? ⟨w.heap.size, 1, none⟩ = some (.int .i64 b))
       (first | exact ⟨s0, s1, t0, t1⟩ | exact ⟨c0, c1, p0, p1⟩)
       (first | (go_at_call 132; have hh := HF.out; clear hh; go_must (refine (RLess_any _ _ _ _ _).mono ?_); go_must (rw [HLS.out]); go_must (rintro e w3 ⟨rfl, hf⟩); go_must (have s0 := cell_fr' hf c0 nB); go_must (have s1 := cell_fr' hf c1 nB); go_must (have s2 := cell_fr' hf c2 nB); go_must (have t0 := cell_fr' hf p0 nB); go_must (have t1 := cell_fr' hf p1 nB); go_must (have HF3 := zh ((HF.out.drewN _).drew.trans hf)); go_must (have HO3 := zh (own_keep HO.out (((Fr.refl NoB wr).drewN _).drew.trans hf) (fun _ _ h => h))); go_must (clear hf)))
      go_upto_region 15 with fail
      go_upto_region 17 with (at_builtin; refine app_own rfl _ _ 68 134 3 24 _ rfl Tryz.underlying68 Tryz.info134 rfl (by omega) (w.heap.size + 1) _ _ _ rfl (oA HO3.out _) ⟨w3.heap.size, 0, none⟩ 1 1 (rt3 ⟨⟨l, b⟩, hop⟩) rfl rfl (news3 w3 ⟨⟨l, b⟩, hop⟩) (rt3_one _) (by have := HSL.out; omega) (by omega) (base_alloc HF3.out.size _) ?_; intro v' w4 hv hf)
      have hv2 : SlR w4 (w.heap.size + 1) v' (T ++ [⟨⟨l, b⟩, hop⟩]) := SlR.app (r := ⟨⟨l, b⟩, hop⟩) hv
      have hf2 := (HF3.out.alloc _).ownB (oA HO3.out _) (by omega) hf
      have hnb : ∀ g, _ → g ≠ w.heap.size ∧ g ≠ b0 := fun g (h : _ = some g) => by have h1 := (oL HO3.out g h).1; have h2 := HB0.out; omega
      have r0 := cell_fr' hf (cell_alloc t0 _) (fun h => (hnb _ h).1 rfl)
      have r1 := cell_fr' hf (cell_alloc t1 _) (fun h => (hnb _ h).1 rfl)
      have q0 := cell_fr' hf (cell_alloc s0 _) (fun h => (hnb _ h).2 rfl)
      have q1 := cell_fr' hf (cell_alloc s1 _) (fun h => (hnb _ h).2 rfl)
      have q2 := cell_fr' hf (cell_alloc s2 _) (fun h => (hnb _ h).2 rfl)
      have HO4 := zh hv2;have HF4 := zh hf2
      clear hv hf hnb hv2 hf2 s0 s1 s2 t0 t1;have HSL : Hid ((T ++ [(⟨⟨l, b⟩, hop⟩ : Tb.Rt)]).length ≤ 2001) := by have := HSL.out; show (T ++ [_]).length ≤ 2001; rw [List.length_append, List.length_singleton]; omega
      go_wp2_with (at_builtin; refine app_own rfl _ _ 68 134 3 24 _ rfl Tryz.underlying68 Tryz.info134 rfl (by omega) (w.heap.size + 1) _ _ _ rfl (oA HO4.out _) ⟨w4.heap.size, 0, none⟩ 1 1 (rt3 ⟨⟨x, y⟩, z⟩) rfl rfl (news3 w4 ⟨⟨x, y⟩, z⟩) (rt3_one _) (by have := HSL.out; omega) (by omega) (base_alloc HF4.out.size _) ?_; intro v' w5 hv hf)
      have hv2 : SlR w5 (w.heap.size + 1) v' ((T ++ [⟨⟨l, b⟩, hop⟩]) ++ [⟨⟨x, y⟩, z⟩]) := SlR.app (r := ⟨⟨x, y⟩, z⟩) hv
      have hf2 := (HF4.out.alloc _).ownB (oA HO4.out _) (by omega) hf
      have hnb : ∀ g, _ → g ≠ w.heap.size := fun g (h : _ = some g) => by have := (oL HO4.out g h).1; omega
      have t0 := cell_fr' hf (cell_alloc r0 _) (fun h => hnb _ h rfl)
      have t1 := cell_fr' hf (cell_alloc r1 _) (fun h => hnb _ h rfl)
      have HV2 := zh hv2; clear hv2; have HF2 := zh hf2; clear hf2;clear hv hf hnb
      go_wp2;go_roundw
      case rel => exact ⟨k + 1, by omega, by go_num, by rw [HST.out]; exact HV2.out, by rw [HST.out], t0, t1, HF2.out⟩
      case measure => simp [intOf]; omega
     | false =>
      rw [if_neg (fun h => by have := of_decide_eq_false HLS.out; exact this h.2)] at hst
      have HST := zh hst; clear hst;go_wp2
      go_quiet (fail)
      go_wp2
      go_region_held3 (fun W => W.cell? ⟨b0, o0 + k * 3, none⟩ = some (.int .i64 x) ∧ W.cell? ⟨b0, o0 + k * 3 + 1, none⟩ = some (.int .i64 y) ∧ W.cell? ⟨w.heap.size, 0, none⟩ = some (.int .i64 l) ∧ W.cell? ⟨w.heap.size, 1, none⟩ = some (.int .i64 b))
       (first | exact ⟨s0, s1, t0, t1⟩ | exact ⟨c0, c1, p0, p1⟩)
       (first | (go_at_call 132; have hh := HF.out; clear hh; go_must (refine (RLess_any _ _ _ _ _).mono ?_); go_must (rw [HLS.out]); go_must (rintro e w3 ⟨rfl, hf⟩); go_must (have s0 := cell_fr' hf c0 nB); go_must (have s1 := cell_fr' hf c1 nB); go_must (have s2 := cell_fr' hf c2 nB); go_must (have t0 := cell_fr' hf p0 nB); go_must (have t1 := cell_fr' hf p1 nB); go_must (have HF3 := zh ((HF.out.drewN _).drew.trans hf)); go_must (have HO3 := zh (own_keep HO.out (((Fr.refl NoB wr).drewN _).drew.trans hf) (fun _ _ h => h))); go_must (clear hf)))
      go_upto_region 17 with fail
      clear c0 c1 c2 p0 p1;go_wp2_with (at_builtin; refine app_own rfl _ _ 68 134 3 24 _ rfl Tryz.underlying68 Tryz.info134 rfl (by omega) (w.heap.size + 1) _ _ _ rfl (oA HO3.out _) ⟨w3.heap.size, 0, none⟩ 1 1 (rt3 ⟨⟨x, y⟩, z⟩) rfl rfl (news3 w3 ⟨⟨x, y⟩, z⟩) (rt3_one _) (by have := HSL.out; omega) (by omega) (base_alloc HF3.out.size _) ?_; intro v' w5 hv hf)
      have hv2 : SlR w5 (w.heap.size + 1) v' (T ++ [⟨⟨x, y⟩, z⟩]) := SlR.app (r := ⟨⟨x, y⟩, z⟩) hv
      have hf2 := (HF3.out.alloc _).ownB (oA HO3.out _) (by omega) hf
      have hnb : ∀ g, _ → g ≠ w.heap.size := fun g (h : _ = some g) => by have := (oL HO3.out g h).1; omega
      have t0 := cell_fr' hf (cell_alloc t0 _) (fun h => hnb _ h rfl)
      have t1 := cell_fr' hf (cell_alloc t1 _) (fun h => hnb _ h rfl)
      have HV2 := zh hv2; clear hv2; have HF2 := zh hf2; clear hf2;clear hv hf hnb
      go_wp2;go_roundw
      case rel => exact ⟨k + 1, by omega, by go_num, by rw [HST.out]; exact HV2.out, by rw [HST.out], t0, t1, HF2.out⟩
      case measure => simp [intOf]; omega
   cases pb with
   | true =>
    rw [if_neg (by simp)] at hst;have HST := zh hst; clear hst
    go_wp2;go_quiet (fail)
    go_wp2;go_quiet (fail)
    go_upto_region 17 with fail
    refine wp_name fun w3 hw3 => ?_
    have hF : Fr NoB wr w3 := by rw [hw3]; (repeat (first | exact Fr.refl _ _ | refine Fr.alloc ?_ _ | refine Fr.setNew ?_ (by omega) _ _ | refine Fr.drewN ?_ _ | refine Fr.drew ?_))
    have s0 := cell_fr' hF c0 nB
    have s1 := cell_fr' hF c1 nB
    have s2 := cell_fr' hF c2 nB
    have t0 := cell_fr' hF p0 nB
    have t1 := cell_fr' hF p1 nB
    have HF3 := zh (HF.out.trans hF)
    have HO3 := zh (own_keep HO.out hF (fun _ _ h => h))
    clear hw3 hF c0 c1 c2 p0 p1;go_wp2_with (at_builtin; refine app_own rfl _ _ 68 134 3 24 _ rfl Tryz.underlying68 Tryz.info134 rfl (by omega) (w.heap.size + 1) _ _ _ rfl (oA HO3.out _) ⟨w3.heap.size, 0, none⟩ 1 1 (rt3 ⟨⟨x, y⟩, z⟩) rfl rfl (news3 w3 ⟨⟨x, y⟩, z⟩) (rt3_one _) (by have := HSL.out; omega) (by omega) (base_alloc HF3.out.size _) ?_; intro v' w5 hv hf)
    have hv2 : SlR w5 (w.heap.size + 1) v' (T ++ [⟨⟨x, y⟩, z⟩]) := SlR.app (r := ⟨⟨x, y⟩, z⟩) hv
    have hf2 := (HF3.out.alloc _).ownB (oA HO3.out _) (by omega) hf
    have hnb : ∀ g, _ → g ≠ w.heap.size := fun g (h : _ = some g) => by have := (oL HO3.out g h).1; omega
    have t0 := cell_fr' hf (cell_alloc t0 _) (fun h => hnb _ h rfl)
    have t1 := cell_fr' hf (cell_alloc t1 _) (fun h => hnb _ h rfl)
    have HV2 := zh hv2; clear hv2; have HF2 := zh hf2; clear hf2;clear hv hf hnb
    go_wp2;go_roundw
    case rel => exact ⟨k + 1, by omega, by go_num, by rw [HST.out]; exact HV2.out, by rw [HST.out], t0, t1, HF2.out⟩
    case measure => simp [intOf]; omega
   | false =>
    generalize hls : decide (Tb.less ⟨l, b⟩ ⟨x, y⟩) = ls at *;have HLS := zh hls
    clear hls;cases ls with
    | true =>
     rw [if_pos ⟨rfl, of_decide_eq_true HLS.out⟩] at hst;have HST := zh hst; clear hst
     go_wp2;go_quiet (fail)
     go_wp2
     go_region_held3 (fun W => W.cell? ⟨b0, o0 + k * 3, none⟩ = some (.int .i64 x) ∧ W.cell? ⟨b0, o0 + k * 3 + 1, none⟩ = some (.int .i64 y) ∧ W.cell? ⟨w.heap.size, 0, none⟩ = some (.int .i64 l) ∧ W.cell? ⟨w.heap.size, 1, none⟩ = some (.int .i64 b))
      (first | exact ⟨s0, s1, t0, t1⟩ | exact ⟨c0, c1, p0, p1⟩)
      (first | (go_at_call 132; have hh := HF.out; clear hh; go_must (refine (RLess_any _ _ _ _ _).mono ?_); go_must (rw [HLS.out]); go_must (rintro e w3 ⟨rfl, hf⟩); go_must (have s0 := cell_fr' hf c0 nB); go_must (have s1 := cell_fr' hf c1 nB); go_must (have s2 := cell_fr' hf c2 nB); go_must (have t0 := cell_fr' hf p0 nB); go_must (have t1 := cell_fr' hf p1 nB); go_must (have HF3 := zh ((HF.out.drewN _).drew.trans hf)); go_must (have HO3 := zh (own_keep HO.out (((Fr.refl NoB wr).drewN _).drew.trans hf) (fun _ _ h => h))); go_must (clear hf)))
     go_upto_region 15 with fail
     go_upto_region 17 with (at_builtin; refine app_own rfl _ _ 68 134 3 24 _ rfl Tryz.underlying68 Tryz.info134 rfl (by omega) (w.heap.size + 1) _ _ _ rfl (oA HO3.out _) ⟨w3.heap.size, 0, none⟩ 1 1 (rt3 ⟨⟨l, b⟩, hop⟩) rfl rfl (news3 w3 ⟨⟨l, b⟩, hop⟩) (rt3_one _) (by have := HSL.out; omega) (by omega) (base_alloc HF3.out.size _) ?_; intro v' w4 hv hf)
     have hv2 : SlR w4 (w.heap.size + 1) v' (T ++ [⟨⟨l, b⟩, hop⟩]) := SlR.app (r := ⟨⟨l, b⟩, hop⟩) hv
     have hf2 := (HF3.out.alloc _).ownB (oA HO3.out _) (by omega) hf
     have hnb : ∀ g, _ → g ≠ w.heap.size ∧ g ≠ b0 := fun g (h : _ = some g) => by have h1 := (oL HO3.out g h).1; have h2 := HB0.out; omega
     have r0 := cell_fr' hf (cell_alloc t0 _) (fun h => (hnb _ h).1 rfl)
     have r1 := cell_fr' hf (cell_alloc t1 _) (fun h => (hnb _ h).1 rfl)
     have q0 := cell_fr' hf (cell_alloc s0 _) (fun h => (hnb _ h).2 rfl)
     have q1 := cell_fr' hf (cell_alloc s1 _) (fun h => (hnb _ h).2 rfl)
     have q2 := cell_fr' hf (cell_alloc s2 _) (fun h => (hnb _ h).2 rfl)
     have HO4 := zh hv2;have HF4 := zh hf2
     clear hv hf hnb hv2 hf2 s0 s1 s2 t0 t1;have HSL : Hid ((T ++ [(⟨⟨l, b⟩, hop⟩ : Tb.Rt)]).length ≤ 2001) := by have := HSL.out; show (T ++ [_]).length ≤ 2001; rw [List.length_append, List.length_singleton]; omega
     go_wp2_with (at_builtin; refine app_own rfl _ _ 68 134 3 24 _ rfl Tryz.underlying68 Tryz.info134 rfl (by omega) (w.heap.size + 1) _ _ _ rfl (oA HO4.out _) ⟨w4.heap.size, 0, none⟩ 1 1 (rt3 ⟨⟨x, y⟩, z⟩) rfl rfl (news3 w4 ⟨⟨x, y⟩, z⟩) (rt3_one _) (by have := HSL.out; omega) (by omega) (base_alloc HF4.out.size _) ?_; intro v' w5 hv hf)
     have hv2 : SlR w5 (w.heap.size + 1) v' ((T ++ [⟨⟨l, b⟩, hop⟩]) ++ [⟨⟨x, y⟩, z⟩]) := SlR.app (r := ⟨⟨x, y⟩, z⟩) hv
     have hf2 := (HF4.out.alloc _).ownB (oA HO4.out _) (by omega) hf
     have hnb : ∀ g, _ → g ≠ w.heap.size := fun g (h : _ = some g) => by have := (oL HO4.out g h).1; omega
     have t0 := cell_fr' hf (cell_alloc r0 _) (fun h => hnb _ h rfl)
     have t1 := cell_fr' hf (cell_alloc r1 _) (fun h => hnb _ h rfl)
     have HV2 := zh hv2; clear hv2; have HF2 := zh hf2; clear hf2;clear hv hf hnb
     go_wp2;go_roundw
     case rel => exact ⟨k + 1, by omega, by go_num, by rw [HST.out]; exact HV2.out, by rw [HST.out], t0, t1, HF2.out⟩
     case measure => simp [intOf]; omega
    | false =>
     rw [if_neg (fun h => by have := of_decide_eq_false HLS.out; exact this h.2)] at hst
     have HST := zh hst; clear hst;go_wp2
     go_quiet (fail)
     go_wp2
     go_region_held3 (fun W => W.cell? ⟨b0, o0 + k * 3, none⟩ = some (.int .i64 x) ∧ W.cell? ⟨b0, o0 + k * 3 + 1, none⟩ = some (.int .i64 y) ∧ W.cell? ⟨w.heap.size, 0, none⟩ = some (.int .i64 l) ∧ W.cell? ⟨w.heap.size, 1, none⟩ = some (.int .i64 b))
      (first | exact ⟨s0, s1, t0, t1⟩ | exact ⟨c0, c1, p0, p1⟩)
      (first | (go_at_call 132; have hh := HF.out; clear hh; go_must (refine (RLess_any _ _ _ _ _).mono ?_); go_must (rw [HLS.out]); go_must (rintro e w3 ⟨rfl, hf⟩); go_must (have s0 := cell_fr' hf c0 nB); go_must (have s1 := cell_fr' hf c1 nB); go_must (have s2 := cell_fr' hf c2 nB); go_must (have t0 := cell_fr' hf p0 nB); go_must (have t1 := cell_fr' hf p1 nB); go_must (have HF3 := zh ((HF.out.drewN _).drew.trans hf)); go_must (have HO3 := zh (own_keep HO.out (((Fr.refl NoB wr).drewN _).drew.trans hf) (fun _ _ h => h))); go_must (clear hf)))
     go_upto_region 17 with fail
     clear c0 c1 c2 p0 p1;go_wp2_with (at_builtin; refine app_own rfl _ _ 68 134 3 24 _ rfl Tryz.underlying68 Tryz.info134 rfl (by omega) (w.heap.size + 1) _ _ _ rfl (oA HO3.out _) ⟨w3.heap.size, 0, none⟩ 1 1 (rt3 ⟨⟨x, y⟩, z⟩) rfl rfl (news3 w3 ⟨⟨x, y⟩, z⟩) (rt3_one _) (by have := HSL.out; omega) (by omega) (base_alloc HF3.out.size _) ?_; intro v' w5 hv hf)
     have hv2 : SlR w5 (w.heap.size + 1) v' (T ++ [⟨⟨x, y⟩, z⟩]) := SlR.app (r := ⟨⟨x, y⟩, z⟩) hv
     have hf2 := (HF3.out.alloc _).ownB (oA HO3.out _) (by omega) hf
     have hnb : ∀ g, _ → g ≠ w.heap.size := fun g (h : _ = some g) => by have := (oL HO3.out g h).1; omega
     have t0 := cell_fr' hf (cell_alloc t0 _) (fun h => hnb _ h rfl)
     have t1 := cell_fr' hf (cell_alloc t1 _) (fun h => hnb _ h rfl)
     have HV2 := zh hv2; clear hv2; have HF2 := zh hf2; clear hf2;clear hv hf hnb
     go_wp2;go_roundw
     case rel => exact ⟨k + 1, by omega, by go_num, by rw [HST.out]; exact HV2.out, by rw [HST.out], t0, t1, HF2.out⟩
     case measure => simp [intOf]; omega
  have e : L.take k = L := List.take_of_length_le (by omega)
  rw [e] at hsl HO ⊢
  clear e;generalize hss : Tb.soF L ⟨l, b⟩ hop = s at *
  obtain ⟨T, pb⟩ := s
  dsimp only at hsl HO ⊢
  have HSL : Hid (T.length ≤ 2000) := by show T.length ≤ 2000; omega
  have HSS := zh hss;clear hss hsl
  cases pb with
  | true =>
   obtain ⟨oa, oc, rfl, _⟩ := HO.out.shape
   go_wp2;refine bodyPost_ret (v := .tuple #[.slice oa T.length oc, .int .i64 0]) ?_ rfl (show SoOk L ⟨l, b⟩ hop w (.returned (.tuple #[.slice oa T.length oc, .int .i64 0])) wr from ⟨_, rfl, by rw [HSS.out]; exact HO.out.base (by omega), HF.out⟩)
   simp [results, Tryz.results98, go_sem]
  | false =>
   go_upto_region 19 with fail
   go_wp2_with (at_builtin; refine app_own rfl _ _ 68 134 3 24 _ rfl Tryz.underlying68 Tryz.info134 rfl (by omega) (w.heap.size + 1) _ _ _ rfl (oA HO.out _) ⟨wr.heap.size, 0, none⟩ 1 1 (rt3 ⟨⟨l, b⟩, hop⟩) rfl rfl (news3 wr ⟨⟨l, b⟩, hop⟩) (rt3_one _) (by have := HSL.out; omega) (by omega) (base_alloc HF.out.size _) ?_; intro v' w4 hv hf)
   have hv2 : SlR w4 (w.heap.size + 1) v' (T ++ [⟨⟨l, b⟩, hop⟩]) := SlR.app (r := ⟨⟨l, b⟩, hop⟩) hv
   have hf2 := (HF.out.alloc _).ownB (oA HO.out _) (by omega) hf
   have HV2 := zh hv2; clear hv2; have HF2 := zh hf2; clear hf2;clear hv hf
   refine bodyPost_ret (v := .tuple #[v', .int .i64 0]) ?_ rfl (show SoOk L ⟨l, b⟩ hop w (.returned (.tuple #[v', .int .i64 0])) w4 from ⟨_, rfl, by rw [HSS.out]; exact HV2.out.base (by omega), HF2.out⟩)
   simp [results, Tryz.results98, go_sem]
theorem SetOf_put (a : Option Addr) (c : Nat) (L : List Tb.Rt) (l b hop : Int) (w : World) (hl : L.length ≤ 1000) (ha : Rs w a L) (hok : Tb.ok ⟨l, b⟩) (h2 : hop ≠ -2) (hho : Tb.hopOK hop) (hg : Tb.get L ⟨l, b⟩ ≠ -2) :
  Calls Tryz.prog 98 #[.slice a L.length c, .agg #[.int .i64 l, .int .i64 b], .int .i64 hop] w (SoOk L ⟨l, b⟩ hop w) := by
 have hd := decide_eq_true hok
 have hbg : (Tb.get L ⟨l, b⟩ == -2) = false := by simpa using hg
 have hd2 := decide_eq_true hho
 have HPT : Hid (Value.bool false = .bool (Tb.soF [] ⟨l, b⟩ hop).2) := by
  show Value.bool false = .bool (hop == -2)
  rw [show (hop == -2) = false from by simpa using h2]
 have hbh : (hop == -2) = false := by simpa using h2
 have hbh2 : (hop != -2) = true := by simpa using h2
 generalize hgv : Tb.get L ⟨l, b⟩ = gv at *
 have HG := zh hgv
 clear hgv
 have HD := zh hd; clear hd; have HOK := zh hok; clear hok; have HA := zh ha; clear ha; have HD2 := zh hd2; clear hd2; have HHO := zh hho; clear hho
 clear h2 hg
 go_enter Tryz.func98, Tryz.ntmps98
 go_wp2_with fail
 refine (IsPrefix_any l b _).mono ?_
 rw [HD.out]
 rintro e w1 ⟨rfl, hf⟩
 have c0 := cell_fr' hf (box0 w (.int .i64 l) (.int .i64 b) 83) (fun h => h)
 have c1 := cell_fr' hf (box1 w (.int .i64 l) (.int .i64 b) 83) (fun h => h)
 have HF1 := zh (((Fr.refl NoB w).alloc _).trans hf)
 clear hf
 go_wp2_with fail
 refine (IsHop_any hop _).mono ?_
 rw [HD2.out]
 rintro e w2 ⟨rfl, rfl⟩
 go_wp2_with fail
 refine (GetOf_any a c L l b _ hl (HA.out.keep0 HF1.out)).mono ?_
 rw [HG.out]
 rintro e w3 ⟨rfl, hf⟩
 have c0 := cell_fr' hf c0 nB
 have c1 := cell_fr' hf c1 nB
 have HF3 := zh (HF1.out.trans hf)
 clear hf HF1
 go_wp2
 go_loopw [9, 10, 11] (fun o pt i wr => SoRel L ⟨l, b⟩ hop w o pt i wr) (fun _ _ i _ => L.length - (intOf i).toNat)
 case atStart => exact ⟨0, by omega, rfl, by rw [List.take_zero]; exact SlR.nil _ _, by rw [List.take_zero]; exact HPT.out, c0, c1, HF3.out⟩
 case round =>
  clear c0 c1 HF3;obtain ⟨k, hk, rfl, ho, rfl, p0, p1, hf⟩ := hrel
  dsimp only at p0 p1;have hbs : w.heap.size < wr.heap.size := World.block_lt_of_cell? wr _ p0
  have HBS := zh hbs;have HF := zh hf; clear hf; have HO := zh ho; clear ho
  clear hbs;have hsl := Tb.soF_len ⟨l, b⟩ hop k (L.take k) (by rw [List.length_take]; omega)
  by_cases hkk : k < L.length
  ·have hblk : ∀ p, a = some p → p.block < w.heap.size := fun p hp => by
    obtain ⟨b0, o0, e, c0, _⟩ := HA.out k hkk
    rw [hp] at e;cases e
    exact World.block_lt_of_cell? w ⟨b0, o0 + k * 3, none⟩ c0
   obtain ⟨b0, o0, rfl, c0, c1, c2⟩ := (HA.out.keep0 HF.out) k hkk
   have hb0 := hblk _ rfl
   dsimp only at hb0;have hst : Tb.soF (L.take (k + 1)) ⟨l, b⟩ hop = Tb.stS ⟨l, b⟩ hop (Tb.soF (L.take k) ⟨l, b⟩ hop) (Tb.nth L k) := by rw [Tb.take_succ hkk, Tb.soF_app]
   generalize hr : Tb.nth L k = r at *;obtain ⟨⟨x, y⟩, z⟩ := r
   generalize hss : Tb.soF (L.take k) ⟨l, b⟩ hop = s at *;obtain ⟨T, pb⟩ := s
   dsimp only at c0 c1 c2 hsl HO ⊢
   have HSL : Hid (T.length ≤ 2000) := by show T.length ≤ 2000; omega
   have HB0 := zh hb0;clear hr hss hblk hb0 hsl
   unfold Tb.stS at hst;dsimp only at hst
   have hki : (k : Int) < (L.length : Int) := by omega
   by_cases q : x = l ∧ y = b
   ·obtain ⟨rfl, rfl⟩ := q
    rw [if_pos rfl] at hst;have HST := zh hst; clear hst
    go_wp2;go_quiet (fail)
    go_wp2;go_roundw
    case rel => exact ⟨k + 1, by omega, by go_num, by rw [HST.out]; exact own_keep HO.out ((Fr.refl NoB _).drewN _) (fun _ _ h => h), by rw [HST.out], p0, p1, HF.out.drewN _⟩
    case measure => simp [intOf]; omega
   rw [if_neg (fun e => q (by simp only [Tb.Pf.mk.injEq] at e; exact e))] at hst
   have hq : (x == l) = false ∨ (x == l) = true ∧ (y == b) = false := by
    by_cases q1 : x = l
    ·exact .inr ⟨by simpa using q1, by simp; exact fun e => q ⟨q1, e⟩⟩
    exact .inl (by simpa using q1)
   clear q;rcases hq with hq | ⟨hq1, hq⟩
   ·cases pb with
    | true =>
     rw [if_neg (by simp)] at hst;have HST := zh hst; clear hst
     go_wp2;go_quiet (fail)
     go_wp2;go_quiet (fail)
     go_upto_region 17 with fail
     refine wp_name fun w3 hw3 => ?_
     have hF : Fr NoB wr w3 := by rw [hw3]; (repeat (first | exact Fr.refl _ _ | refine Fr.alloc ?_ _ | refine Fr.setNew ?_ (by omega) _ _ | refine Fr.drewN ?_ _ | refine Fr.drew ?_))
     have s0 := cell_fr' hF c0 nB
     have s1 := cell_fr' hF c1 nB
     have s2 := cell_fr' hF c2 nB
     have t0 := cell_fr' hF p0 nB
     have t1 := cell_fr' hF p1 nB
     have HF3 := zh (HF.out.trans hF)
     have HO3 := zh (own_keep HO.out hF (fun _ _ h => h))
     clear hw3 hF c0 c1 c2 p0 p1;go_wp2_with (at_builtin; refine app_own rfl _ _ 68 134 3 24 _ rfl Tryz.underlying68 Tryz.info134 rfl (by omega) (w.heap.size + 1) _ _ _ rfl (oA HO3.out _) ⟨w3.heap.size, 0, none⟩ 1 1 (rt3 ⟨⟨x, y⟩, z⟩) rfl rfl (news3 w3 ⟨⟨x, y⟩, z⟩) (rt3_one _) (by have := HSL.out; omega) (by omega) (base_alloc HF3.out.size _) ?_; intro v' w5 hv hf)
     have hv2 : SlR w5 (w.heap.size + 1) v' (T ++ [⟨⟨x, y⟩, z⟩]) := SlR.app (r := ⟨⟨x, y⟩, z⟩) hv
     have hf2 := (HF3.out.alloc _).ownB (oA HO3.out _) (by omega) hf
     have hnb : ∀ g, _ → g ≠ w.heap.size := fun g (h : _ = some g) => by have := (oL HO3.out g h).1; omega
     have t0 := cell_fr' hf (cell_alloc t0 _) (fun h => hnb _ h rfl)
     have t1 := cell_fr' hf (cell_alloc t1 _) (fun h => hnb _ h rfl)
     have HV2 := zh hv2; clear hv2; have HF2 := zh hf2; clear hf2;clear hv hf hnb
     go_wp2;go_roundw
     case rel => exact ⟨k + 1, by omega, by go_num, by rw [HST.out]; exact HV2.out, by rw [HST.out], t0, t1, HF2.out⟩
     case measure => simp [intOf]; omega
    | false =>
     generalize hls : decide (Tb.less ⟨l, b⟩ ⟨x, y⟩) = ls at *;have HLS := zh hls
     clear hls;cases ls with
     | true =>
      rw [if_pos ⟨rfl, of_decide_eq_true HLS.out⟩] at hst;have HST := zh hst; clear hst
      go_wp2;go_quiet (fail)
      go_wp2
      go_region_held3 (fun W => W.cell? ⟨b0, o0 + k * 3, none⟩ = some (.int .i64 x) ∧ W.cell? ⟨b0, o0 + k * 3 + 1, none⟩ = some (.int .i64 y) ∧ W.cell? ⟨w.heap.size, 0, none⟩ = some (.int .i64 l) ∧ W.cell? ⟨w.heap.size, 1, none⟩ = some (.int .i64 b))
       (first | exact ⟨s0, s1, t0, t1⟩ | exact ⟨c0, c1, p0, p1⟩)
       (first | (go_at_call 132; have hh := HF.out; clear hh; go_must (refine (RLess_any _ _ _ _ _).mono ?_); go_must (rw [HLS.out]); go_must (rintro e w3 ⟨rfl, hf⟩); go_must (have s0 := cell_fr' hf c0 nB); go_must (have s1 := cell_fr' hf c1 nB); go_must (have s2 := cell_fr' hf c2 nB); go_must (have t0 := cell_fr' hf p0 nB); go_must (have t1 := cell_fr' hf p1 nB); go_must (have HF3 := zh ((HF.out.drewN _).drew.trans hf)); go_must (have HO3 := zh (own_keep HO.out (((Fr.refl NoB wr).drewN _).drew.trans hf) (fun _ _ h => h))); go_must (clear hf)))
      go_upto_region 15 with fail
      go_upto_region 17 with (at_builtin; refine app_own rfl _ _ 68 134 3 24 _ rfl Tryz.underlying68 Tryz.info134 rfl (by omega) (w.heap.size + 1) _ _ _ rfl (oA HO3.out _) ⟨w3.heap.size, 0, none⟩ 1 1 (rt3 ⟨⟨l, b⟩, hop⟩) rfl rfl (news3 w3 ⟨⟨l, b⟩, hop⟩) (rt3_one _) (by have := HSL.out; omega) (by omega) (base_alloc HF3.out.size _) ?_; intro v' w4 hv hf)
      have hv2 : SlR w4 (w.heap.size + 1) v' (T ++ [⟨⟨l, b⟩, hop⟩]) := SlR.app (r := ⟨⟨l, b⟩, hop⟩) hv
      have hf2 := (HF3.out.alloc _).ownB (oA HO3.out _) (by omega) hf
      have hnb : ∀ g, _ → g ≠ w.heap.size ∧ g ≠ b0 := fun g (h : _ = some g) => by have h1 := (oL HO3.out g h).1; have h2 := HB0.out; omega
      have r0 := cell_fr' hf (cell_alloc t0 _) (fun h => (hnb _ h).1 rfl)
      have r1 := cell_fr' hf (cell_alloc t1 _) (fun h => (hnb _ h).1 rfl)
      have q0 := cell_fr' hf (cell_alloc s0 _) (fun h => (hnb _ h).2 rfl)
      have q1 := cell_fr' hf (cell_alloc s1 _) (fun h => (hnb _ h).2 rfl)
      have q2 := cell_fr' hf (cell_alloc s2 _) (fun h => (hnb _ h).2 rfl)
      have HO4 := zh hv2;have HF4 := zh hf2
      clear hv hf hnb hv2 hf2 s0 s1 s2 t0 t1;have HSL : Hid ((T ++ [(⟨⟨l, b⟩, hop⟩ : Tb.Rt)]).length ≤ 2001) := by have := HSL.out; show (T ++ [_]).length ≤ 2001; rw [List.length_append, List.length_singleton]; omega
      go_wp2_with (at_builtin; refine app_own rfl _ _ 68 134 3 24 _ rfl Tryz.underlying68 Tryz.info134 rfl (by omega) (w.heap.size + 1) _ _ _ rfl (oA HO4.out _) ⟨w4.heap.size, 0, none⟩ 1 1 (rt3 ⟨⟨x, y⟩, z⟩) rfl rfl (news3 w4 ⟨⟨x, y⟩, z⟩) (rt3_one _) (by have := HSL.out; omega) (by omega) (base_alloc HF4.out.size _) ?_; intro v' w5 hv hf)
      have hv2 : SlR w5 (w.heap.size + 1) v' ((T ++ [⟨⟨l, b⟩, hop⟩]) ++ [⟨⟨x, y⟩, z⟩]) := SlR.app (r := ⟨⟨x, y⟩, z⟩) hv
      have hf2 := (HF4.out.alloc _).ownB (oA HO4.out _) (by omega) hf
      have hnb : ∀ g, _ → g ≠ w.heap.size := fun g (h : _ = some g) => by have := (oL HO4.out g h).1; omega
      have t0 := cell_fr' hf (cell_alloc r0 _) (fun h => hnb _ h rfl)
      have t1 := cell_fr' hf (cell_alloc r1 _) (fun h => hnb _ h rfl)
      have HV2 := zh hv2; clear hv2; have HF2 := zh hf2; clear hf2;clear hv hf hnb
      go_wp2;go_roundw
      case rel => exact ⟨k + 1, by omega, by go_num, by rw [HST.out]; exact HV2.out, by rw [HST.out], t0, t1, HF2.out⟩
      case measure => simp [intOf]; omega
     | false =>
      rw [if_neg (fun h => by have := of_decide_eq_false HLS.out; exact this h.2)] at hst
      have HST := zh hst; clear hst;go_wp2
      go_quiet (fail)
      go_wp2
      go_region_held3 (fun W => W.cell? ⟨b0, o0 + k * 3, none⟩ = some (.int .i64 x) ∧ W.cell? ⟨b0, o0 + k * 3 + 1, none⟩ = some (.int .i64 y) ∧ W.cell? ⟨w.heap.size, 0, none⟩ = some (.int .i64 l) ∧ W.cell? ⟨w.heap.size, 1, none⟩ = some (.int .i64 b))
       (first | exact ⟨s0, s1, t0, t1⟩ | exact ⟨c0, c1, p0, p1⟩)
       (first | (go_at_call 132; have hh := HF.out; clear hh; go_must (refine (RLess_any _ _ _ _ _).mono ?_); go_must (rw [HLS.out]); go_must (rintro e w3 ⟨rfl, hf⟩); go_must (have s0 := cell_fr' hf c0 nB); go_must (have s1 := cell_fr' hf c1 nB); go_must (have s2 := cell_fr' hf c2 nB); go_must (have t0 := cell_fr' hf p0 nB); go_must (have t1 := cell_fr' hf p1 nB); go_must (have HF3 := zh ((HF.out.drewN _).drew.trans hf)); go_must (have HO3 := zh (own_keep HO.out (((Fr.refl NoB wr).drewN _).drew.trans hf) (fun _ _ h => h))); go_must (clear hf)))
      go_upto_region 17 with fail
      clear c0 c1 c2 p0 p1;go_wp2_with (at_builtin; refine app_own rfl _ _ 68 134 3 24 _ rfl Tryz.underlying68 Tryz.info134 rfl (by omega) (w.heap.size + 1) _ _ _ rfl (oA HO3.out _) ⟨w3.heap.size, 0, none⟩ 1 1 (rt3 ⟨⟨x, y⟩, z⟩) rfl rfl (news3 w3 ⟨⟨x, y⟩, z⟩) (rt3_one _) (by have := HSL.out; omega) (by omega) (base_alloc HF3.out.size _) ?_; intro v' w5 hv hf)
      have hv2 : SlR w5 (w.heap.size + 1) v' (T ++ [⟨⟨x, y⟩, z⟩]) := SlR.app (r := ⟨⟨x, y⟩, z⟩) hv
      have hf2 := (HF3.out.alloc _).ownB (oA HO3.out _) (by omega) hf
      have hnb : ∀ g, _ → g ≠ w.heap.size := fun g (h : _ = some g) => by have := (oL HO3.out g h).1; omega
      have t0 := cell_fr' hf (cell_alloc t0 _) (fun h => hnb _ h rfl)
      have t1 := cell_fr' hf (cell_alloc t1 _) (fun h => hnb _ h rfl)
      have HV2 := zh hv2; clear hv2; have HF2 := zh hf2; clear hf2;clear hv hf hnb
      go_wp2;go_roundw
      case rel => exact ⟨k + 1, by omega, by go_num, by rw [HST.out]; exact HV2.out, by rw [HST.out], t0, t1, HF2.out⟩
      case measure => simp [intOf]; omega
   cases pb with
   | true =>
    rw [if_neg (by simp)] at hst;have HST := zh hst; clear hst
    go_wp2;go_quiet (fail)
    go_wp2;go_quiet (fail)
    go_upto_region 17 with fail
    refine wp_name fun w3 hw3 => ?_
    have hF : Fr NoB wr w3 := by rw [hw3]; (repeat (first | exact Fr.refl _ _ | refine Fr.alloc ?_ _ | refine Fr.setNew ?_ (by omega) _ _ | refine Fr.drewN ?_ _ | refine Fr.drew ?_))
    have s0 := cell_fr' hF c0 nB
    have s1 := cell_fr' hF c1 nB
    have s2 := cell_fr' hF c2 nB
    have t0 := cell_fr' hF p0 nB
    have t1 := cell_fr' hF p1 nB
    have HF3 := zh (HF.out.trans hF)
    have HO3 := zh (own_keep HO.out hF (fun _ _ h => h))
    clear hw3 hF c0 c1 c2 p0 p1;go_wp2_with (at_builtin; refine app_own rfl _ _ 68 134 3 24 _ rfl Tryz.underlying68 Tryz.info134 rfl (by omega) (w.heap.size + 1) _ _ _ rfl (oA HO3.out _) ⟨w3.heap.size, 0, none⟩ 1 1 (rt3 ⟨⟨x, y⟩, z⟩) rfl rfl (news3 w3 ⟨⟨x, y⟩, z⟩) (rt3_one _) (by have := HSL.out; omega) (by omega) (base_alloc HF3.out.size _) ?_; intro v' w5 hv hf)
    have hv2 : SlR w5 (w.heap.size + 1) v' (T ++ [⟨⟨x, y⟩, z⟩]) := SlR.app (r := ⟨⟨x, y⟩, z⟩) hv
    have hf2 := (HF3.out.alloc _).ownB (oA HO3.out _) (by omega) hf
    have hnb : ∀ g, _ → g ≠ w.heap.size := fun g (h : _ = some g) => by have := (oL HO3.out g h).1; omega
    have t0 := cell_fr' hf (cell_alloc t0 _) (fun h => hnb _ h rfl)
    have t1 := cell_fr' hf (cell_alloc t1 _) (fun h => hnb _ h rfl)
    have HV2 := zh hv2; clear hv2; have HF2 := zh hf2; clear hf2;clear hv hf hnb
    go_wp2;go_roundw
    case rel => exact ⟨k + 1, by omega, by go_num, by rw [HST.out]; exact HV2.out, by rw [HST.out], t0, t1, HF2.out⟩
    case measure => simp [intOf]; omega
   | false =>
    generalize hls : decide (Tb.less ⟨l, b⟩ ⟨x, y⟩) = ls at *;have HLS := zh hls
    clear hls;cases ls with
    | true =>
     rw [if_pos ⟨rfl, of_decide_eq_true HLS.out⟩] at hst;have HST := zh hst; clear hst
     go_wp2;go_quiet (fail)
     go_wp2
     go_region_held3 (fun W => W.cell? ⟨b0, o0 + k * 3, none⟩ = some (.int .i64 x) ∧ W.cell? ⟨b0, o0 + k * 3 + 1, none⟩ = some (.int .i64 y) ∧ W.cell? ⟨w.heap.size, 0, none⟩ = some (.int .i64 l) ∧ W.cell? ⟨w.heap.size, 1, none⟩ = some (.int .i64 b))
      (first | exact ⟨s0, s1, t0, t1⟩ | exact ⟨c0, c1, p0, p1⟩)
      (first | (go_at_call 132; have hh := HF.out; clear hh; go_must (refine (RLess_any _ _ _ _ _).mono ?_); go_must (rw [HLS.out]); go_must (rintro e w3 ⟨rfl, hf⟩); go_must (have s0 := cell_fr' hf c0 nB); go_must (have s1 := cell_fr' hf c1 nB); go_must (have s2 := cell_fr' hf c2 nB); go_must (have t0 := cell_fr' hf p0 nB); go_must (have t1 := cell_fr' hf p1 nB); go_must (have HF3 := zh ((HF.out.drewN _).drew.trans hf)); go_must (have HO3 := zh (own_keep HO.out (((Fr.refl NoB wr).drewN _).drew.trans hf) (fun _ _ h => h))); go_must (clear hf)))
     go_upto_region 15 with fail
     go_upto_region 17 with (at_builtin; refine app_own rfl _ _ 68 134 3 24 _ rfl Tryz.underlying68 Tryz.info134 rfl (by omega) (w.heap.size + 1) _ _ _ rfl (oA HO3.out _) ⟨w3.heap.size, 0, none⟩ 1 1 (rt3 ⟨⟨l, b⟩, hop⟩) rfl rfl (news3 w3 ⟨⟨l, b⟩, hop⟩) (rt3_one _) (by have := HSL.out; omega) (by omega) (base_alloc HF3.out.size _) ?_; intro v' w4 hv hf)
     have hv2 : SlR w4 (w.heap.size + 1) v' (T ++ [⟨⟨l, b⟩, hop⟩]) := SlR.app (r := ⟨⟨l, b⟩, hop⟩) hv
     have hf2 := (HF3.out.alloc _).ownB (oA HO3.out _) (by omega) hf
     have hnb : ∀ g, _ → g ≠ w.heap.size ∧ g ≠ b0 := fun g (h : _ = some g) => by have h1 := (oL HO3.out g h).1; have h2 := HB0.out; omega
     have r0 := cell_fr' hf (cell_alloc t0 _) (fun h => (hnb _ h).1 rfl)
     have r1 := cell_fr' hf (cell_alloc t1 _) (fun h => (hnb _ h).1 rfl)
     have q0 := cell_fr' hf (cell_alloc s0 _) (fun h => (hnb _ h).2 rfl)
     have q1 := cell_fr' hf (cell_alloc s1 _) (fun h => (hnb _ h).2 rfl)
     have q2 := cell_fr' hf (cell_alloc s2 _) (fun h => (hnb _ h).2 rfl)
     have HO4 := zh hv2;have HF4 := zh hf2
     clear hv hf hnb hv2 hf2 s0 s1 s2 t0 t1;have HSL : Hid ((T ++ [(⟨⟨l, b⟩, hop⟩ : Tb.Rt)]).length ≤ 2001) := by have := HSL.out; show (T ++ [_]).length ≤ 2001; rw [List.length_append, List.length_singleton]; omega
     go_wp2_with (at_builtin; refine app_own rfl _ _ 68 134 3 24 _ rfl Tryz.underlying68 Tryz.info134 rfl (by omega) (w.heap.size + 1) _ _ _ rfl (oA HO4.out _) ⟨w4.heap.size, 0, none⟩ 1 1 (rt3 ⟨⟨x, y⟩, z⟩) rfl rfl (news3 w4 ⟨⟨x, y⟩, z⟩) (rt3_one _) (by have := HSL.out; omega) (by omega) (base_alloc HF4.out.size _) ?_; intro v' w5 hv hf)
     have hv2 : SlR w5 (w.heap.size + 1) v' ((T ++ [⟨⟨l, b⟩, hop⟩]) ++ [⟨⟨x, y⟩, z⟩]) := SlR.app (r := ⟨⟨x, y⟩, z⟩) hv
     have hf2 := (HF4.out.alloc _).ownB (oA HO4.out _) (by omega) hf
     have hnb : ∀ g, _ → g ≠ w.heap.size := fun g (h : _ = some g) => by have := (oL HO4.out g h).1; omega
     have t0 := cell_fr' hf (cell_alloc r0 _) (fun h => hnb _ h rfl)
     have t1 := cell_fr' hf (cell_alloc r1 _) (fun h => hnb _ h rfl)
     have HV2 := zh hv2; clear hv2; have HF2 := zh hf2; clear hf2;clear hv hf hnb
     go_wp2;go_roundw
     case rel => exact ⟨k + 1, by omega, by go_num, by rw [HST.out]; exact HV2.out, by rw [HST.out], t0, t1, HF2.out⟩
     case measure => simp [intOf]; omega
    | false =>
     rw [if_neg (fun h => by have := of_decide_eq_false HLS.out; exact this h.2)] at hst
     have HST := zh hst; clear hst;go_wp2
     go_quiet (fail)
     go_wp2
     go_region_held3 (fun W => W.cell? ⟨b0, o0 + k * 3, none⟩ = some (.int .i64 x) ∧ W.cell? ⟨b0, o0 + k * 3 + 1, none⟩ = some (.int .i64 y) ∧ W.cell? ⟨w.heap.size, 0, none⟩ = some (.int .i64 l) ∧ W.cell? ⟨w.heap.size, 1, none⟩ = some (.int .i64 b))
      (first | exact ⟨s0, s1, t0, t1⟩ | exact ⟨c0, c1, p0, p1⟩)
      (first | (go_at_call 132; have hh := HF.out; clear hh; go_must (refine (RLess_any _ _ _ _ _).mono ?_); go_must (rw [HLS.out]); go_must (rintro e w3 ⟨rfl, hf⟩); go_must (have s0 := cell_fr' hf c0 nB); go_must (have s1 := cell_fr' hf c1 nB); go_must (have s2 := cell_fr' hf c2 nB); go_must (have t0 := cell_fr' hf p0 nB); go_must (have t1 := cell_fr' hf p1 nB); go_must (have HF3 := zh ((HF.out.drewN _).drew.trans hf)); go_must (have HO3 := zh (own_keep HO.out (((Fr.refl NoB wr).drewN _).drew.trans hf) (fun _ _ h => h))); go_must (clear hf)))
     go_upto_region 17 with fail
     clear c0 c1 c2 p0 p1;go_wp2_with (at_builtin; refine app_own rfl _ _ 68 134 3 24 _ rfl Tryz.underlying68 Tryz.info134 rfl (by omega) (w.heap.size + 1) _ _ _ rfl (oA HO3.out _) ⟨w3.heap.size, 0, none⟩ 1 1 (rt3 ⟨⟨x, y⟩, z⟩) rfl rfl (news3 w3 ⟨⟨x, y⟩, z⟩) (rt3_one _) (by have := HSL.out; omega) (by omega) (base_alloc HF3.out.size _) ?_; intro v' w5 hv hf)
     have hv2 : SlR w5 (w.heap.size + 1) v' (T ++ [⟨⟨x, y⟩, z⟩]) := SlR.app (r := ⟨⟨x, y⟩, z⟩) hv
     have hf2 := (HF3.out.alloc _).ownB (oA HO3.out _) (by omega) hf
     have hnb : ∀ g, _ → g ≠ w.heap.size := fun g (h : _ = some g) => by have := (oL HO3.out g h).1; omega
     have t0 := cell_fr' hf (cell_alloc t0 _) (fun h => hnb _ h rfl)
     have t1 := cell_fr' hf (cell_alloc t1 _) (fun h => hnb _ h rfl)
     have HV2 := zh hv2; clear hv2; have HF2 := zh hf2; clear hf2;clear hv hf hnb
     go_wp2;go_roundw
     case rel => exact ⟨k + 1, by omega, by go_num, by rw [HST.out]; exact HV2.out, by rw [HST.out], t0, t1, HF2.out⟩
     case measure => simp [intOf]; omega
  have e : L.take k = L := List.take_of_length_le (by omega)
  rw [e] at hsl HO ⊢
  clear e;generalize hss : Tb.soF L ⟨l, b⟩ hop = s at *
  obtain ⟨T, pb⟩ := s
  dsimp only at hsl HO ⊢
  have HSL : Hid (T.length ≤ 2000) := by show T.length ≤ 2000; omega
  have HSS := zh hss;clear hss hsl
  cases pb with
  | true =>
   obtain ⟨oa, oc, rfl, _⟩ := HO.out.shape
   go_wp2;refine bodyPost_ret (v := .tuple #[.slice oa T.length oc, .int .i64 0]) ?_ rfl (show SoOk L ⟨l, b⟩ hop w (.returned (.tuple #[.slice oa T.length oc, .int .i64 0])) wr from ⟨_, rfl, by rw [HSS.out]; exact HO.out.base (by omega), HF.out⟩)
   simp [results, Tryz.results98, go_sem]
  | false =>
   go_upto_region 19 with fail
   go_wp2_with (at_builtin; refine app_own rfl _ _ 68 134 3 24 _ rfl Tryz.underlying68 Tryz.info134 rfl (by omega) (w.heap.size + 1) _ _ _ rfl (oA HO.out _) ⟨wr.heap.size, 0, none⟩ 1 1 (rt3 ⟨⟨l, b⟩, hop⟩) rfl rfl (news3 wr ⟨⟨l, b⟩, hop⟩) (rt3_one _) (by have := HSL.out; omega) (by omega) (base_alloc HF.out.size _) ?_; intro v' w4 hv hf)
   have hv2 : SlR w4 (w.heap.size + 1) v' (T ++ [⟨⟨l, b⟩, hop⟩]) := SlR.app (r := ⟨⟨l, b⟩, hop⟩) hv
   have hf2 := (HF.out.alloc _).ownB (oA HO.out _) (by omega) hf
   have HV2 := zh hv2; clear hv2; have HF2 := zh hf2; clear hf2;clear hv hf
   refine bodyPost_ret (v := .tuple #[v', .int .i64 0]) ?_ rfl (show SoOk L ⟨l, b⟩ hop w (.returned (.tuple #[v', .int .i64 0])) w4 from ⟨_, rfl, by rw [HSS.out]; exact HV2.out.base (by omega), HF2.out⟩)
   simp [results, Tryz.results98, go_sem]
theorem SetOf_new (a : Option Addr) (c : Nat) (L : List Tb.Rt) (l b hop : Int) (w : World) (hl : L.length ≤ 1000) (ha : Rs w a L) (hok : Tb.ok ⟨l, b⟩) (h2 : hop ≠ -2) (hho : Tb.hopOK hop) (hg : Tb.get L ⟨l, b⟩ = -2) (h40 : L.length < 40) :
  Calls Tryz.prog 98 #[.slice a L.length c, .agg #[.int .i64 l, .int .i64 b], .int .i64 hop] w (SoOk L ⟨l, b⟩ hop w) := by
 have hd := decide_eq_true hok
 have hd2 := decide_eq_true hho
 have HPT : Hid (Value.bool false = .bool (Tb.soF [] ⟨l, b⟩ hop).2) := by
  show Value.bool false = .bool (hop == -2)
  rw [show (hop == -2) = false from by simpa using h2]
 have hbh : (hop == -2) = false := by simpa using h2
 have hbh2 : (hop != -2) = true := by simpa using h2
 have hb40 : (L.length : Int) < 40 := by omega
 have HD := zh hd; clear hd; have HOK := zh hok; clear hok; have HA := zh ha; clear ha; have HD2 := zh hd2; clear hd2; have HHO := zh hho; clear hho; have HG := zh hg; clear hg
 clear h2
 go_enter Tryz.func98, Tryz.ntmps98
 go_wp2_with fail
 refine (IsPrefix_any l b _).mono ?_
 rw [HD.out]
 rintro e w1 ⟨rfl, hf⟩
 have c0 := cell_fr' hf (box0 w (.int .i64 l) (.int .i64 b) 83) (fun h => h)
 have c1 := cell_fr' hf (box1 w (.int .i64 l) (.int .i64 b) 83) (fun h => h)
 have HF1 := zh (((Fr.refl NoB w).alloc _).trans hf)
 clear hf
 go_wp2_with fail
 refine (IsHop_any hop _).mono ?_
 rw [HD2.out]
 rintro e w2 ⟨rfl, rfl⟩
 go_wp2_with fail
 refine (GetOf_any a c L l b _ hl (HA.out.keep0 HF1.out)).mono ?_
 rw [HG.out]
 rintro e w3 ⟨rfl, hf⟩
 have c0 := cell_fr' hf c0 nB
 have c1 := cell_fr' hf c1 nB
 have HF3 := zh (HF1.out.trans hf)
 clear hf HF1
 go_wp2
 go_loopw [9, 10, 11] (fun o pt i wr => SoRel L ⟨l, b⟩ hop w o pt i wr) (fun _ _ i _ => L.length - (intOf i).toNat)
 case atStart => exact ⟨0, by omega, rfl, by rw [List.take_zero]; exact SlR.nil _ _, by rw [List.take_zero]; exact HPT.out, c0, c1, HF3.out⟩
 case round =>
  clear c0 c1 HF3;obtain ⟨k, hk, rfl, ho, rfl, p0, p1, hf⟩ := hrel
  dsimp only at p0 p1;have hbs : w.heap.size < wr.heap.size := World.block_lt_of_cell? wr _ p0
  have HBS := zh hbs;have HF := zh hf; clear hf; have HO := zh ho; clear ho
  clear hbs;have hsl := Tb.soF_len ⟨l, b⟩ hop k (L.take k) (by rw [List.length_take]; omega)
  by_cases hkk : k < L.length
  ·have hblk : ∀ p, a = some p → p.block < w.heap.size := fun p hp => by
    obtain ⟨b0, o0, e, c0, _⟩ := HA.out k hkk
    rw [hp] at e;cases e
    exact World.block_lt_of_cell? w ⟨b0, o0 + k * 3, none⟩ c0
   obtain ⟨b0, o0, rfl, c0, c1, c2⟩ := (HA.out.keep0 HF.out) k hkk
   have hb0 := hblk _ rfl
   dsimp only at hb0;have hst : Tb.soF (L.take (k + 1)) ⟨l, b⟩ hop = Tb.stS ⟨l, b⟩ hop (Tb.soF (L.take k) ⟨l, b⟩ hop) (Tb.nth L k) := by rw [Tb.take_succ hkk, Tb.soF_app]
   generalize hr : Tb.nth L k = r at *;obtain ⟨⟨x, y⟩, z⟩ := r
   generalize hss : Tb.soF (L.take k) ⟨l, b⟩ hop = s at *;obtain ⟨T, pb⟩ := s
   dsimp only at c0 c1 c2 hsl HO ⊢
   have HSL : Hid (T.length ≤ 2000) := by show T.length ≤ 2000; omega
   have HB0 := zh hb0;clear hr hss hblk hb0 hsl
   unfold Tb.stS at hst;dsimp only at hst
   have hki : (k : Int) < (L.length : Int) := by omega
   by_cases q : x = l ∧ y = b
   ·obtain ⟨rfl, rfl⟩ := q
    rw [if_pos rfl] at hst;have HST := zh hst; clear hst
    go_wp2;go_quiet (fail)
    go_wp2;go_roundw
    case rel => exact ⟨k + 1, by omega, by go_num, by rw [HST.out]; exact own_keep HO.out ((Fr.refl NoB _).drewN _) (fun _ _ h => h), by rw [HST.out], p0, p1, HF.out.drewN _⟩
    case measure => simp [intOf]; omega
   rw [if_neg (fun e => q (by simp only [Tb.Pf.mk.injEq] at e; exact e))] at hst
   have hq : (x == l) = false ∨ (x == l) = true ∧ (y == b) = false := by
    by_cases q1 : x = l
    ·exact .inr ⟨by simpa using q1, by simp; exact fun e => q ⟨q1, e⟩⟩
    exact .inl (by simpa using q1)
   clear q;rcases hq with hq | ⟨hq1, hq⟩
   ·cases pb with
    | true =>
     rw [if_neg (by simp)] at hst;have HST := zh hst; clear hst
     go_wp2;go_quiet (fail)
     go_wp2;go_quiet (fail)
     go_upto_region 17 with fail
     refine wp_name fun w3 hw3 => ?_
     have hF : Fr NoB wr w3 := by rw [hw3]; (repeat (first | exact Fr.refl _ _ | refine Fr.alloc ?_ _ | refine Fr.setNew ?_ (by omega) _ _ | refine Fr.drewN ?_ _ | refine Fr.drew ?_))
     have s0 := cell_fr' hF c0 nB
     have s1 := cell_fr' hF c1 nB
     have s2 := cell_fr' hF c2 nB
     have t0 := cell_fr' hF p0 nB
     have t1 := cell_fr' hF p1 nB
     have HF3 := zh (HF.out.trans hF)
     have HO3 := zh (own_keep HO.out hF (fun _ _ h => h))
     clear hw3 hF c0 c1 c2 p0 p1;go_wp2_with (at_builtin; refine app_own rfl _ _ 68 134 3 24 _ rfl Tryz.underlying68 Tryz.info134 rfl (by omega) (w.heap.size + 1) _ _ _ rfl (oA HO3.out _) ⟨w3.heap.size, 0, none⟩ 1 1 (rt3 ⟨⟨x, y⟩, z⟩) rfl rfl (news3 w3 ⟨⟨x, y⟩, z⟩) (rt3_one _) (by have := HSL.out; omega) (by omega) (base_alloc HF3.out.size _) ?_; intro v' w5 hv hf)
     have hv2 : SlR w5 (w.heap.size + 1) v' (T ++ [⟨⟨x, y⟩, z⟩]) := SlR.app (r := ⟨⟨x, y⟩, z⟩) hv
     have hf2 := (HF3.out.alloc _).ownB (oA HO3.out _) (by omega) hf
     have hnb : ∀ g, _ → g ≠ w.heap.size := fun g (h : _ = some g) => by have := (oL HO3.out g h).1; omega
     have t0 := cell_fr' hf (cell_alloc t0 _) (fun h => hnb _ h rfl)
     have t1 := cell_fr' hf (cell_alloc t1 _) (fun h => hnb _ h rfl)
     have HV2 := zh hv2; clear hv2; have HF2 := zh hf2; clear hf2;clear hv hf hnb
     go_wp2;go_roundw
     case rel => exact ⟨k + 1, by omega, by go_num, by rw [HST.out]; exact HV2.out, by rw [HST.out], t0, t1, HF2.out⟩
     case measure => simp [intOf]; omega
    | false =>
     generalize hls : decide (Tb.less ⟨l, b⟩ ⟨x, y⟩) = ls at *;have HLS := zh hls
     clear hls;cases ls with
     | true =>
      rw [if_pos ⟨rfl, of_decide_eq_true HLS.out⟩] at hst;have HST := zh hst; clear hst
      go_wp2;go_quiet (fail)
      go_wp2
      go_region_held3 (fun W => W.cell? ⟨b0, o0 + k * 3, none⟩ = some (.int .i64 x) ∧ W.cell? ⟨b0, o0 + k * 3 + 1, none⟩ = some (.int .i64 y) ∧ W.cell? ⟨w.heap.size, 0, none⟩ = some (.int .i64 l) ∧ W.cell? ⟨w.heap.size, 1, none⟩ = some (.int .i64 b))
       (first | exact ⟨s0, s1, t0, t1⟩ | exact ⟨c0, c1, p0, p1⟩)
       (first | (go_at_call 132; have hh := HF.out; clear hh; go_must (refine (RLess_any _ _ _ _ _).mono ?_); go_must (rw [HLS.out]); go_must (rintro e w3 ⟨rfl, hf⟩); go_must (have s0 := cell_fr' hf c0 nB); go_must (have s1 := cell_fr' hf c1 nB); go_must (have s2 := cell_fr' hf c2 nB); go_must (have t0 := cell_fr' hf p0 nB); go_must (have t1 := cell_fr' hf p1 nB); go_must (have HF3 := zh ((HF.out.drewN _).drew.trans hf)); go_must (have HO3 := zh (own_keep HO.out (((Fr.refl NoB wr).drewN _).drew.trans hf) (fun _ _ h => h))); go_must (clear hf)))
      go_upto_region 15 with fail
      go_upto_region 17 with (at_builtin; refine app_own rfl _ _ 68 134 3 24 _ rfl Tryz.underlying68 Tryz.info134 rfl (by omega) (w.heap.size + 1) _ _ _ rfl (oA HO3.out _) ⟨w3.heap.size, 0, none⟩ 1 1 (rt3 ⟨⟨l, b⟩, hop⟩) rfl rfl (news3 w3 ⟨⟨l, b⟩, hop⟩) (rt3_one _) (by have := HSL.out; omega) (by omega) (base_alloc HF3.out.size _) ?_; intro v' w4 hv hf)
      have hv2 : SlR w4 (w.heap.size + 1) v' (T ++ [⟨⟨l, b⟩, hop⟩]) := SlR.app (r := ⟨⟨l, b⟩, hop⟩) hv
      have hf2 := (HF3.out.alloc _).ownB (oA HO3.out _) (by omega) hf
      have hnb : ∀ g, _ → g ≠ w.heap.size ∧ g ≠ b0 := fun g (h : _ = some g) => by have h1 := (oL HO3.out g h).1; have h2 := HB0.out; omega
      have r0 := cell_fr' hf (cell_alloc t0 _) (fun h => (hnb _ h).1 rfl)
      have r1 := cell_fr' hf (cell_alloc t1 _) (fun h => (hnb _ h).1 rfl)
      have q0 := cell_fr' hf (cell_alloc s0 _) (fun h => (hnb _ h).2 rfl)
      have q1 := cell_fr' hf (cell_alloc s1 _) (fun h => (hnb _ h).2 rfl)
      have q2 := cell_fr' hf (cell_alloc s2 _) (fun h => (hnb _ h).2 rfl)
      have HO4 := zh hv2;have HF4 := zh hf2
      clear hv hf hnb hv2 hf2 s0 s1 s2 t0 t1;have HSL : Hid ((T ++ [(⟨⟨l, b⟩, hop⟩ : Tb.Rt)]).length ≤ 2001) := by have := HSL.out; show (T ++ [_]).length ≤ 2001; rw [List.length_append, List.length_singleton]; omega
      go_wp2_with (at_builtin; refine app_own rfl _ _ 68 134 3 24 _ rfl Tryz.underlying68 Tryz.info134 rfl (by omega) (w.heap.size + 1) _ _ _ rfl (oA HO4.out _) ⟨w4.heap.size, 0, none⟩ 1 1 (rt3 ⟨⟨x, y⟩, z⟩) rfl rfl (news3 w4 ⟨⟨x, y⟩, z⟩) (rt3_one _) (by have := HSL.out; omega) (by omega) (base_alloc HF4.out.size _) ?_; intro v' w5 hv hf)
      have hv2 : SlR w5 (w.heap.size + 1) v' ((T ++ [⟨⟨l, b⟩, hop⟩]) ++ [⟨⟨x, y⟩, z⟩]) := SlR.app (r := ⟨⟨x, y⟩, z⟩) hv
      have hf2 := (HF4.out.alloc _).ownB (oA HO4.out _) (by omega) hf
      have hnb : ∀ g, _ → g ≠ w.heap.size := fun g (h : _ = some g) => by have := (oL HO4.out g h).1; omega
      have t0 := cell_fr' hf (cell_alloc r0 _) (fun h => hnb _ h rfl)
      have t1 := cell_fr' hf (cell_alloc r1 _) (fun h => hnb _ h rfl)
      have HV2 := zh hv2; clear hv2; have HF2 := zh hf2; clear hf2;clear hv hf hnb
      go_wp2;go_roundw
      case rel => exact ⟨k + 1, by omega, by go_num, by rw [HST.out]; exact HV2.out, by rw [HST.out], t0, t1, HF2.out⟩
      case measure => simp [intOf]; omega
     | false =>
      rw [if_neg (fun h => by have := of_decide_eq_false HLS.out; exact this h.2)] at hst
      have HST := zh hst; clear hst;go_wp2
      go_quiet (fail)
      go_wp2
      go_region_held3 (fun W => W.cell? ⟨b0, o0 + k * 3, none⟩ = some (.int .i64 x) ∧ W.cell? ⟨b0, o0 + k * 3 + 1, none⟩ = some (.int .i64 y) ∧ W.cell? ⟨w.heap.size, 0, none⟩ = some (.int .i64 l) ∧ W.cell? ⟨w.heap.size, 1, none⟩ = some (.int .i64 b))
       (first | exact ⟨s0, s1, t0, t1⟩ | exact ⟨c0, c1, p0, p1⟩)
       (first | (go_at_call 132; have hh := HF.out; clear hh; go_must (refine (RLess_any _ _ _ _ _).mono ?_); go_must (rw [HLS.out]); go_must (rintro e w3 ⟨rfl, hf⟩); go_must (have s0 := cell_fr' hf c0 nB); go_must (have s1 := cell_fr' hf c1 nB); go_must (have s2 := cell_fr' hf c2 nB); go_must (have t0 := cell_fr' hf p0 nB); go_must (have t1 := cell_fr' hf p1 nB); go_must (have HF3 := zh ((HF.out.drewN _).drew.trans hf)); go_must (have HO3 := zh (own_keep HO.out (((Fr.refl NoB wr).drewN _).drew.trans hf) (fun _ _ h => h))); go_must (clear hf)))
      go_upto_region 17 with fail
      clear c0 c1 c2 p0 p1;go_wp2_with (at_builtin; refine app_own rfl _ _ 68 134 3 24 _ rfl Tryz.underlying68 Tryz.info134 rfl (by omega) (w.heap.size + 1) _ _ _ rfl (oA HO3.out _) ⟨w3.heap.size, 0, none⟩ 1 1 (rt3 ⟨⟨x, y⟩, z⟩) rfl rfl (news3 w3 ⟨⟨x, y⟩, z⟩) (rt3_one _) (by have := HSL.out; omega) (by omega) (base_alloc HF3.out.size _) ?_; intro v' w5 hv hf)
      have hv2 : SlR w5 (w.heap.size + 1) v' (T ++ [⟨⟨x, y⟩, z⟩]) := SlR.app (r := ⟨⟨x, y⟩, z⟩) hv
      have hf2 := (HF3.out.alloc _).ownB (oA HO3.out _) (by omega) hf
      have hnb : ∀ g, _ → g ≠ w.heap.size := fun g (h : _ = some g) => by have := (oL HO3.out g h).1; omega
      have t0 := cell_fr' hf (cell_alloc t0 _) (fun h => hnb _ h rfl)
      have t1 := cell_fr' hf (cell_alloc t1 _) (fun h => hnb _ h rfl)
      have HV2 := zh hv2; clear hv2; have HF2 := zh hf2; clear hf2;clear hv hf hnb
      go_wp2;go_roundw
      case rel => exact ⟨k + 1, by omega, by go_num, by rw [HST.out]; exact HV2.out, by rw [HST.out], t0, t1, HF2.out⟩
      case measure => simp [intOf]; omega
   cases pb with
   | true =>
    rw [if_neg (by simp)] at hst;have HST := zh hst; clear hst
    go_wp2;go_quiet (fail)
    go_wp2;go_quiet (fail)
    go_upto_region 17 with fail
    refine wp_name fun w3 hw3 => ?_
    have hF : Fr NoB wr w3 := by rw [hw3]; (repeat (first | exact Fr.refl _ _ | refine Fr.alloc ?_ _ | refine Fr.setNew ?_ (by omega) _ _ | refine Fr.drewN ?_ _ | refine Fr.drew ?_))
    have s0 := cell_fr' hF c0 nB
    have s1 := cell_fr' hF c1 nB
    have s2 := cell_fr' hF c2 nB
    have t0 := cell_fr' hF p0 nB
    have t1 := cell_fr' hF p1 nB
    have HF3 := zh (HF.out.trans hF)
    have HO3 := zh (own_keep HO.out hF (fun _ _ h => h))
    clear hw3 hF c0 c1 c2 p0 p1;go_wp2_with (at_builtin; refine app_own rfl _ _ 68 134 3 24 _ rfl Tryz.underlying68 Tryz.info134 rfl (by omega) (w.heap.size + 1) _ _ _ rfl (oA HO3.out _) ⟨w3.heap.size, 0, none⟩ 1 1 (rt3 ⟨⟨x, y⟩, z⟩) rfl rfl (news3 w3 ⟨⟨x, y⟩, z⟩) (rt3_one _) (by have := HSL.out; omega) (by omega) (base_alloc HF3.out.size _) ?_; intro v' w5 hv hf)
    have hv2 : SlR w5 (w.heap.size + 1) v' (T ++ [⟨⟨x, y⟩, z⟩]) := SlR.app (r := ⟨⟨x, y⟩, z⟩) hv
    have hf2 := (HF3.out.alloc _).ownB (oA HO3.out _) (by omega) hf
    have hnb : ∀ g, _ → g ≠ w.heap.size := fun g (h : _ = some g) => by have := (oL HO3.out g h).1; omega
    have t0 := cell_fr' hf (cell_alloc t0 _) (fun h => hnb _ h rfl)
    have t1 := cell_fr' hf (cell_alloc t1 _) (fun h => hnb _ h rfl)
    have HV2 := zh hv2; clear hv2; have HF2 := zh hf2; clear hf2;clear hv hf hnb
    go_wp2;go_roundw
    case rel => exact ⟨k + 1, by omega, by go_num, by rw [HST.out]; exact HV2.out, by rw [HST.out], t0, t1, HF2.out⟩
    case measure => simp [intOf]; omega
   | false =>
    generalize hls : decide (Tb.less ⟨l, b⟩ ⟨x, y⟩) = ls at *;have HLS := zh hls
    clear hls;cases ls with
    | true =>
     rw [if_pos ⟨rfl, of_decide_eq_true HLS.out⟩] at hst;have HST := zh hst; clear hst
     go_wp2;go_quiet (fail)
     go_wp2
     go_region_held3 (fun W => W.cell? ⟨b0, o0 + k * 3, none⟩ = some (.int .i64 x) ∧ W.cell? ⟨b0, o0 + k * 3 + 1, none⟩ = some (.int .i64 y) ∧ W.cell? ⟨w.heap.size, 0, none⟩ = some (.int .i64 l) ∧ W.cell? ⟨w.heap.size, 1, none⟩ = some (.int .i64 b))
      (first | exact ⟨s0, s1, t0, t1⟩ | exact ⟨c0, c1, p0, p1⟩)
      (first | (go_at_call 132; have hh := HF.out; clear hh; go_must (refine (RLess_any _ _ _ _ _).mono ?_); go_must (rw [HLS.out]); go_must (rintro e w3 ⟨rfl, hf⟩); go_must (have s0 := cell_fr' hf c0 nB); go_must (have s1 := cell_fr' hf c1 nB); go_must (have s2 := cell_fr' hf c2 nB); go_must (have t0 := cell_fr' hf p0 nB); go_must (have t1 := cell_fr' hf p1 nB); go_must (have HF3 := zh ((HF.out.drewN _).drew.trans hf)); go_must (have HO3 := zh (own_keep HO.out (((Fr.refl NoB wr).drewN _).drew.trans hf) (fun _ _ h => h))); go_must (clear hf)))
     go_upto_region 15 with fail
     go_upto_region 17 with (at_builtin; refine app_own rfl _ _ 68 134 3 24 _ rfl Tryz.underlying68 Tryz.info134 rfl (by omega) (w.heap.size + 1) _ _ _ rfl (oA HO3.out _) ⟨w3.heap.size, 0, none⟩ 1 1 (rt3 ⟨⟨l, b⟩, hop⟩) rfl rfl (news3 w3 ⟨⟨l, b⟩, hop⟩) (rt3_one _) (by have := HSL.out; omega) (by omega) (base_alloc HF3.out.size _) ?_; intro v' w4 hv hf)
     have hv2 : SlR w4 (w.heap.size + 1) v' (T ++ [⟨⟨l, b⟩, hop⟩]) := SlR.app (r := ⟨⟨l, b⟩, hop⟩) hv
     have hf2 := (HF3.out.alloc _).ownB (oA HO3.out _) (by omega) hf
     have hnb : ∀ g, _ → g ≠ w.heap.size ∧ g ≠ b0 := fun g (h : _ = some g) => by have h1 := (oL HO3.out g h).1; have h2 := HB0.out; omega
     have r0 := cell_fr' hf (cell_alloc t0 _) (fun h => (hnb _ h).1 rfl)
     have r1 := cell_fr' hf (cell_alloc t1 _) (fun h => (hnb _ h).1 rfl)
     have q0 := cell_fr' hf (cell_alloc s0 _) (fun h => (hnb _ h).2 rfl)
     have q1 := cell_fr' hf (cell_alloc s1 _) (fun h => (hnb _ h).2 rfl)
     have q2 := cell_fr' hf (cell_alloc s2 _) (fun h => (hnb _ h).2 rfl)
     have HO4 := zh hv2;have HF4 := zh hf2
     clear hv hf hnb hv2 hf2 s0 s1 s2 t0 t1;have HSL : Hid ((T ++ [(⟨⟨l, b⟩, hop⟩ : Tb.Rt)]).length ≤ 2001) := by have := HSL.out; show (T ++ [_]).length ≤ 2001; rw [List.length_append, List.length_singleton]; omega
     go_wp2_with (at_builtin; refine app_own rfl _ _ 68 134 3 24 _ rfl Tryz.underlying68 Tryz.info134 rfl (by omega) (w.heap.size + 1) _ _ _ rfl (oA HO4.out _) ⟨w4.heap.size, 0, none⟩ 1 1 (rt3 ⟨⟨x, y⟩, z⟩) rfl rfl (news3 w4 ⟨⟨x, y⟩, z⟩) (rt3_one _) (by have := HSL.out; omega) (by omega) (base_alloc HF4.out.size _) ?_; intro v' w5 hv hf)
     have hv2 : SlR w5 (w.heap.size + 1) v' ((T ++ [⟨⟨l, b⟩, hop⟩]) ++ [⟨⟨x, y⟩, z⟩]) := SlR.app (r := ⟨⟨x, y⟩, z⟩) hv
     have hf2 := (HF4.out.alloc _).ownB (oA HO4.out _) (by omega) hf
     have hnb : ∀ g, _ → g ≠ w.heap.size := fun g (h : _ = some g) => by have := (oL HO4.out g h).1; omega
     have t0 := cell_fr' hf (cell_alloc r0 _) (fun h => hnb _ h rfl)
     have t1 := cell_fr' hf (cell_alloc r1 _) (fun h => hnb _ h rfl)
     have HV2 := zh hv2; clear hv2; have HF2 := zh hf2; clear hf2;clear hv hf hnb
     go_wp2;go_roundw
     case rel => exact ⟨k + 1, by omega, by go_num, by rw [HST.out]; exact HV2.out, by rw [HST.out], t0, t1, HF2.out⟩
     case measure => simp [intOf]; omega
    | false =>
     rw [if_neg (fun h => by have := of_decide_eq_false HLS.out; exact this h.2)] at hst
     have HST := zh hst; clear hst;go_wp2
     go_quiet (fail)
     go_wp2
     go_region_held3 (fun W => W.cell? ⟨b0, o0 + k * 3, none⟩ = some (.int .i64 x) ∧ W.cell? ⟨b0, o0 + k * 3 + 1, none⟩ = some (.int .i64 y) ∧ W.cell? ⟨w.heap.size, 0, none⟩ = some (.int .i64 l) ∧ W.cell? ⟨w.heap.size, 1, none⟩ = some (.int .i64 b))
      (first | exact ⟨s0, s1, t0, t1⟩ | exact ⟨c0, c1, p0, p1⟩)
      (first | (go_at_call 132; have hh := HF.out; clear hh; go_must (refine (RLess_any _ _ _ _ _).mono ?_); go_must (rw [HLS.out]); go_must (rintro e w3 ⟨rfl, hf⟩); go_must (have s0 := cell_fr' hf c0 nB); go_must (have s1 := cell_fr' hf c1 nB); go_must (have s2 := cell_fr' hf c2 nB); go_must (have t0 := cell_fr' hf p0 nB); go_must (have t1 := cell_fr' hf p1 nB); go_must (have HF3 := zh ((HF.out.drewN _).drew.trans hf)); go_must (have HO3 := zh (own_keep HO.out (((Fr.refl NoB wr).drewN _).drew.trans hf) (fun _ _ h => h))); go_must (clear hf)))
     go_upto_region 17 with fail
     clear c0 c1 c2 p0 p1;go_wp2_with (at_builtin; refine app_own rfl _ _ 68 134 3 24 _ rfl Tryz.underlying68 Tryz.info134 rfl (by omega) (w.heap.size + 1) _ _ _ rfl (oA HO3.out _) ⟨w3.heap.size, 0, none⟩ 1 1 (rt3 ⟨⟨x, y⟩, z⟩) rfl rfl (news3 w3 ⟨⟨x, y⟩, z⟩) (rt3_one _) (by have := HSL.out; omega) (by omega) (base_alloc HF3.out.size _) ?_; intro v' w5 hv hf)
     have hv2 : SlR w5 (w.heap.size + 1) v' (T ++ [⟨⟨x, y⟩, z⟩]) := SlR.app (r := ⟨⟨x, y⟩, z⟩) hv
     have hf2 := (HF3.out.alloc _).ownB (oA HO3.out _) (by omega) hf
     have hnb : ∀ g, _ → g ≠ w.heap.size := fun g (h : _ = some g) => by have := (oL HO3.out g h).1; omega
     have t0 := cell_fr' hf (cell_alloc t0 _) (fun h => hnb _ h rfl)
     have t1 := cell_fr' hf (cell_alloc t1 _) (fun h => hnb _ h rfl)
     have HV2 := zh hv2; clear hv2; have HF2 := zh hf2; clear hf2;clear hv hf hnb
     go_wp2;go_roundw
     case rel => exact ⟨k + 1, by omega, by go_num, by rw [HST.out]; exact HV2.out, by rw [HST.out], t0, t1, HF2.out⟩
     case measure => simp [intOf]; omega
  have e : L.take k = L := List.take_of_length_le (by omega)
  rw [e] at hsl HO ⊢
  clear e;generalize hss : Tb.soF L ⟨l, b⟩ hop = s at *
  obtain ⟨T, pb⟩ := s
  dsimp only at hsl HO ⊢
  have HSL : Hid (T.length ≤ 2000) := by show T.length ≤ 2000; omega
  have HSS := zh hss;clear hss hsl
  cases pb with
  | true =>
   obtain ⟨oa, oc, rfl, _⟩ := HO.out.shape
   go_wp2;refine bodyPost_ret (v := .tuple #[.slice oa T.length oc, .int .i64 0]) ?_ rfl (show SoOk L ⟨l, b⟩ hop w (.returned (.tuple #[.slice oa T.length oc, .int .i64 0])) wr from ⟨_, rfl, by rw [HSS.out]; exact HO.out.base (by omega), HF.out⟩)
   simp [results, Tryz.results98, go_sem]
  | false =>
   go_upto_region 19 with fail
   go_wp2_with (at_builtin; refine app_own rfl _ _ 68 134 3 24 _ rfl Tryz.underlying68 Tryz.info134 rfl (by omega) (w.heap.size + 1) _ _ _ rfl (oA HO.out _) ⟨wr.heap.size, 0, none⟩ 1 1 (rt3 ⟨⟨l, b⟩, hop⟩) rfl rfl (news3 wr ⟨⟨l, b⟩, hop⟩) (rt3_one _) (by have := HSL.out; omega) (by omega) (base_alloc HF.out.size _) ?_; intro v' w4 hv hf)
   have hv2 : SlR w4 (w.heap.size + 1) v' (T ++ [⟨⟨l, b⟩, hop⟩]) := SlR.app (r := ⟨⟨l, b⟩, hop⟩) hv
   have hf2 := (HF.out.alloc _).ownB (oA HO.out _) (by omega) hf
   have HV2 := zh hv2; clear hv2; have HF2 := zh hf2; clear hf2;clear hv hf
   refine bodyPost_ret (v := .tuple #[v', .int .i64 0]) ?_ rfl (show SoOk L ⟨l, b⟩ hop w (.returned (.tuple #[v', .int .i64 0])) w4 from ⟨_, rfl, by rw [HSS.out]; exact HV2.out.base (by omega), HF2.out⟩)
   simp [results, Tryz.results98, go_sem]
theorem SetTb_no (t : Nat) (v : Value) (L : List Tb.Rt) (l b hop : Int) (w : World) (hl : L.length ≤ 40) (hw : Tb.Wf L) (h : TAt w t v L) (hc : Tb.setC L ⟨l, b⟩ hop ≠ 0) :
  Calls Tryz.prog 79 #[.pointer (some ⟨t, 0, none⟩), .agg #[.int .i64 l, .int .i64 b], .int .i64 hop] w (IntFr (Tb.setC L ⟨l, b⟩ hop) w) := by
 obtain ⟨a, c, rfl, ha, hs, hcell⟩ := h.shape
 clear h hs
 have HA := zh ha; clear ha; have HW := zh hw; clear hw; have HLL := zh hl; clear hl; have HC := zh hcell; clear hcell
 by_cases hok : Tb.ok ⟨l, b⟩
 ·have hd := decide_eq_true hok
  by_cases h2 : hop = -2
  ·subst h2;by_cases hg : Tb.get L ⟨l, b⟩ = -2
   ·have e : Tb.setC L ⟨l, b⟩ (-2) = 6 := by unfold Tb.setC; rw [if_neg (by simp [hok]), if_pos ⟨hg, rfl⟩]
    have hdg := decide_eq_false (show ¬ Tb.get L ⟨l, b⟩ ≠ -2 from fun h => h hg)
    rw [e];have HD := zh hd; clear hd; have HOK := zh hok; clear hok; have HDG := zh hdg; clear hdg
    clear e hc hg;go_enter Tryz.func79, Tryz.ntmps79
    go_upto_region 1 with fail
    refine wp_name fun w1 hw1 => ?_
    have c0 : w1.cell? ⟨w.heap.size, 0, none⟩ = some (.int .i64 l) := by rw [hw1]; simp
    have c1 : w1.cell? ⟨w.heap.size, 1, none⟩ = some (.int .i64 b) := by rw [hw1]; simp
    have hF : Fr NoB w w1 := by rw [hw1]; (repeat (first | exact Fr.refl _ _ | refine Fr.alloc ?_ _ | refine Fr.setNew ?_ (by omega) _ _ | refine Fr.drewN ?_ _ | refine Fr.drew ?_))
    have hc := cell_fr' hF HC.out nB
    clear hw1;have HF0 := zh hF; clear hF
    go_wp2_with fail;refine (at_any t a c L l b _ (by have := HLL.out; omega) HW.out (HA.out.keep0 HF0.out) hc).mono ?_
    unfold AtPost;rw [HDG.out]
    rintro e w2 ⟨rfl, hf⟩
    have c0 := cell_fr' hf c0 nB
    have c1 := cell_fr' hf c1 nB
    have hc := cell_fr' hf hc nB
    have HF1 := zh (HF0.out.trans hf)
    clear hf HF0;go_wp2_with fail
    refine (Check_any l b _).mono ?_
    rw [HD.out];rintro e w3 ⟨rfl, hf⟩
    have c0 := cell_fr' hf c0 nB
    have c1 := cell_fr' hf c1 nB
    have hc := cell_fr' hf hc nB
    have HF2 := zh (HF1.out.trans hf)
    clear hf HF1;go_wp2
    go_ret
    exact ⟨rfl, HF2.out⟩
   exact absurd (by unfold Tb.setC; rw [if_neg (by simp [hok]), if_neg (fun h => hg h.1), if_neg (fun h => hg h.1)]) hc
  have hb : (hop == -2) = false := by simpa using h2
  have hb2 : (hop != -2) = true := by simpa using h2
  by_cases hho : Tb.hopOK hop
  ·have hd2 := decide_eq_true hho
   by_cases hg : Tb.get L ⟨l, b⟩ = -2
   ·by_cases h40 : 40 ≤ L.length
    ·have e : Tb.setC L ⟨l, b⟩ hop = 9 := by unfold Tb.setC; rw [if_neg (by simp [hok, hho]), if_neg (fun h => h2 h.2), if_pos ⟨hg, h40⟩]
     have hdg := decide_eq_false (show ¬ Tb.get L ⟨l, b⟩ ≠ -2 from fun h => h hg)
     have hb40 : ((L.length : Int) == 40) = true := by have := HLL.out; simp; omega
     rw [e];have HD := zh hd; clear hd; have HOK := zh hok; clear hok; have HDG := zh hdg; clear hdg; have HD2 := zh hd2; clear hd2; have HHO := zh hho; clear hho
     clear e hc h2 hg;go_enter Tryz.func79, Tryz.ntmps79
     go_upto_region 1 with fail
     refine wp_name fun w1 hw1 => ?_
     have c0 : w1.cell? ⟨w.heap.size, 0, none⟩ = some (.int .i64 l) := by rw [hw1]; simp
     have c1 : w1.cell? ⟨w.heap.size, 1, none⟩ = some (.int .i64 b) := by rw [hw1]; simp
     have hF : Fr NoB w w1 := by rw [hw1]; (repeat (first | exact Fr.refl _ _ | refine Fr.alloc ?_ _ | refine Fr.setNew ?_ (by omega) _ _ | refine Fr.drewN ?_ _ | refine Fr.drew ?_))
     have hc := cell_fr' hF HC.out nB
     clear hw1;have HF0 := zh hF; clear hF
     go_wp2_with fail;refine (at_any t a c L l b _ (by have := HLL.out; omega) HW.out (HA.out.keep0 HF0.out) hc).mono ?_
     unfold AtPost;rw [HDG.out]
     rintro e w2 ⟨rfl, hf⟩
     have c0 := cell_fr' hf c0 nB
     have c1 := cell_fr' hf c1 nB
     have hc := cell_fr' hf hc nB
     have HF1 := zh (HF0.out.trans hf)
     clear hf HF0;go_wp2_with fail
     refine (Check_any l b _).mono ?_
     rw [HD.out];rintro e w3 ⟨rfl, hf⟩
     have c0 := cell_fr' hf c0 nB
     have c1 := cell_fr' hf c1 nB
     have hc := cell_fr' hf hc nB
     have HF2 := zh (HF1.out.trans hf)
     clear hf HF1;go_wp2_with fail
     refine (Hop_any hop _).mono ?_
     rw [HD2.out];rintro e w4 ⟨rfl, rfl⟩
     go_wp2;go_ret
     exact ⟨rfl, HF2.out⟩
    exact absurd (by unfold Tb.setC; rw [if_neg (by simp [hok, hho]), if_neg (fun h => h2 h.2), if_neg (fun h => h40 h.2)]) hc
   exact absurd (by unfold Tb.setC; rw [if_neg (by simp [hok, hho]), if_neg (fun h => hg h.1), if_neg (fun h => hg h.1)]) hc
  have hd2 := decide_eq_false hho
  have e : Tb.setC L ⟨l, b⟩ hop = 1 := by unfold Tb.setC; rw [if_pos (.inr ⟨h2, hho⟩)]
  have hdg : ∃ bb, decide (Tb.get L ⟨l, b⟩ ≠ -2) = bb := ⟨_, rfl⟩
  obtain ⟨bb, hdg⟩ := hdg
  rw [e];have HD := zh hd; clear hd; have HOK := zh hok; clear hok; have HD2 := zh hd2; clear hd2; have HHO := zh hho; clear hho; have HDG := zh hdg; clear hdg
  clear e hc h2;go_enter Tryz.func79, Tryz.ntmps79
  go_upto_region 1 with fail
  refine wp_name fun w1 hw1 => ?_
  have c0 : w1.cell? ⟨w.heap.size, 0, none⟩ = some (.int .i64 l) := by rw [hw1]; simp
  have c1 : w1.cell? ⟨w.heap.size, 1, none⟩ = some (.int .i64 b) := by rw [hw1]; simp
  have hF : Fr NoB w w1 := by rw [hw1]; (repeat (first | exact Fr.refl _ _ | refine Fr.alloc ?_ _ | refine Fr.setNew ?_ (by omega) _ _ | refine Fr.drewN ?_ _ | refine Fr.drew ?_))
  have hc := cell_fr' hF HC.out nB
  clear hw1;have HF0 := zh hF; clear hF
  go_wp2_with fail;refine (at_any t a c L l b _ (by have := HLL.out; omega) HW.out (HA.out.keep0 HF0.out) hc).mono ?_
  unfold AtPost;rw [HDG.out]
  rintro e w2 ⟨rfl, hf⟩
  have c0 := cell_fr' hf c0 nB
  have c1 := cell_fr' hf c1 nB
  have hc := cell_fr' hf hc nB
  have HF1 := zh (HF0.out.trans hf)
  clear hf HF0;go_wp2_with fail
  refine (Check_any l b _).mono ?_
  rw [HD.out];rintro e w3 ⟨rfl, hf⟩
  have c0 := cell_fr' hf c0 nB
  have c1 := cell_fr' hf c1 nB
  have hc := cell_fr' hf hc nB
  have HF2 := zh (HF1.out.trans hf)
  clear hf HF1;go_wp2_with fail
  refine (Hop_any hop _).mono ?_
  rw [HD2.out];rintro e w4 ⟨rfl, rfl⟩
  go_wp2;go_ret
  exact ⟨rfl, HF2.out⟩
 have hd := decide_eq_false hok
 have e : Tb.setC L ⟨l, b⟩ hop = 1 := by unfold Tb.setC; rw [if_pos (.inl hok)]
 have hdg : ∃ bb, decide (Tb.get L ⟨l, b⟩ ≠ -2) = bb := ⟨_, rfl⟩
 obtain ⟨bb, hdg⟩ := hdg
 rw [e]
 have HD := zh hd; clear hd; have HOK := zh hok; clear hok; have HDG := zh hdg; clear hdg
 clear e hc
 go_enter Tryz.func79, Tryz.ntmps79
 go_upto_region 1 with fail
 refine wp_name fun w1 hw1 => ?_
 have c0 : w1.cell? ⟨w.heap.size, 0, none⟩ = some (.int .i64 l) := by rw [hw1]; simp
 have c1 : w1.cell? ⟨w.heap.size, 1, none⟩ = some (.int .i64 b) := by rw [hw1]; simp
 have hF : Fr NoB w w1 := by rw [hw1]; (repeat (first | exact Fr.refl _ _ | refine Fr.alloc ?_ _ | refine Fr.setNew ?_ (by omega) _ _ | refine Fr.drewN ?_ _ | refine Fr.drew ?_))
 have hc := cell_fr' hF HC.out nB
 clear hw1
 have HF0 := zh hF; clear hF
 go_wp2_with fail
 refine (at_any t a c L l b _ (by have := HLL.out; omega) HW.out (HA.out.keep0 HF0.out) hc).mono ?_
 unfold AtPost
 rw [HDG.out]
 rintro e w2 ⟨rfl, hf⟩
 have c0 := cell_fr' hf c0 nB
 have c1 := cell_fr' hf c1 nB
 have hc := cell_fr' hf hc nB
 have HF1 := zh (HF0.out.trans hf)
 clear hf HF0
 go_wp2_with fail
 refine (Check_any l b _).mono ?_
 rw [HD.out]
 rintro e w3 ⟨rfl, hf⟩
 have c0 := cell_fr' hf c0 nB
 have c1 := cell_fr' hf c1 nB
 have hc := cell_fr' hf hc nB
 have HF2 := zh (HF1.out.trans hf)
 clear hf HF1
 go_wp2
 go_ret
 exact ⟨rfl, HF2.out⟩
def SetOk (t : Nat) (v : Value) (L : List Tb.Rt) (w : World) (e : Ending) (w' : World) : Prop :=
 e = .returned (.int .i64 0) ∧ ∃ v', TAt w' t v' L ∧ Fr (fun k => k = t ∨ v.ownBlock = some k) w w' ∧ ∀ g, v'.ownBlock = some g → v.ownBlock = some g ∨ w.heap.size ≤ g
theorem TAt.store {w w' : World} {t : Nat} {v v' : Value} {L L' : List Tb.Rt} (h : TAt w t v L) (hv : SlR w' 0 v' L') (hf : Fr (fun k => v.ownBlock = some k) w w') (hn : v'.ownBlock ≠ some t) : TAt (w'.setCell ⟨t, 0, none⟩ v') t v' L' := by
 have hr := hf.row h.row (fun e => h.ne e)
 refine ⟨(World.rowIs.set hr 0 v').congr (fun i hi => by rw [if_pos (by omega)]), own_keep hv ((Fr.refl (OneB t) _).set1 _ _) (fun g hg e => hn (by unfold OneB at e; rw [← e]; exact hg)), hn⟩
theorem TAt.own {w : World} {t : Nat} {v : Value} {L : List Tb.Rt} (h : TAt w t v L) (hne : 0 < L.length) : ∃ g c, v = .slice (some ⟨g, 0, none⟩) L.length c ∧ L.length ≤ c ∧ c ≤ maxLen ∧ ∃ f, w.rowIs g 134 (c * 3) f ∧ ∀ k, k < L.length * 3 → ((rtI L).map (Value.int .i64))[k]? = some (f k) := by
 have hs := h.sl
 rcases h.sl.2 with ⟨_, h0⟩ | ⟨g, cap, cur, rfl, _⟩
 ·omega
 obtain ⟨h1, h2, _, f, h3, h4⟩ := own_row hs
 exact ⟨g, cap, rfl, h1, h2, f, h3, h4⟩
theorem SlR.setHop {w : World} {g c : Nat} {L : List Tb.Rt} (h : SlR w 0 (.slice (some ⟨g, 0, none⟩) L.length c) L) {i : Nat} (hi : i < L.length) (hop : Int) :
  SlR (w.setCell ⟨g, i * 3 + 2, none⟩ (.int .i64 hop)) 0 (.slice (some ⟨g, 0, none⟩) L.length c) (L.take i ++ ⟨(Tb.nth L i).p, hop⟩ :: L.drop (i + 1)) := by
 obtain ⟨h1, h2, _, f, hrow, hx⟩ := own_row h
 have hll : (L.take i ++ (⟨(Tb.nth L i).p, hop⟩ : Tb.Rt) :: L.drop (i + 1)).length = L.length := by rw [List.length_append, List.length_cons, List.length_take, List.length_drop]; omega
 unfold SlR
 rw [hll]
 have hr := World.rowIs.set hrow (i * 3 + 2) (.int .i64 hop)
 refine row_own hr (Nat.zero_le _) h1 h2 (by rw [List.length_map, rtI_len, hll]) (fun k hk => ?_)
 have eL : L = L.take i ++ Tb.nth L i :: L.drop (i + 1) := by
  rw [Tb.nth_eq hi, ← List.drop_eq_getElem_cons hi, List.take_append_drop]
 have e1 : rtI L = rtI (L.take i) ++ ([(Tb.nth L i).p.len, (Tb.nth L i).p.bits, (Tb.nth L i).hop] ++ rtI (L.drop (i + 1))) := by
  conv => lhs; rw [eL]
  rw [rtI_app]; rfl
 have e2 : rtI (L.take i ++ (⟨(Tb.nth L i).p, hop⟩ : Tb.Rt) :: L.drop (i + 1)) = rtI (L.take i) ++ ([(Tb.nth L i).p.len, (Tb.nth L i).p.bits, hop] ++ rtI (L.drop (i + 1))) := by rw [rtI_app]; rfl
 have hk' := hx k hk
 rw [e1] at hk'
 rw [e2]
 have l1 : ((rtI (L.take i)).map (Value.int .i64)).length = i * 3 := by rw [List.length_map, rtI_len, List.length_take]; omega
 rw [List.map_append] at hk' ⊢
 by_cases k1 : k < i * 3
 ·rw [if_neg (by omega), List.getElem?_append_left (by omega)];rw [List.getElem?_append_left (by omega)] at hk'
  exact hk'
 rw [List.getElem?_append_right (by omega), l1, List.map_append]
 rw [List.getElem?_append_right (by omega), l1, List.map_append] at hk'
 by_cases k2 : k < i * 3 + 3
 ·have : k - i * 3 = 0 ∨ k - i * 3 = 1 ∨ k - i * 3 = 2 := by omega
  rcases this with e | e | e
  ·rw [if_neg (by omega)]; rw [e] at hk' ⊢; exact hk'
  ·rw [if_neg (by omega)]; rw [e] at hk' ⊢; exact hk'
  rw [if_pos (by omega)]; rw [e]; rfl
 rw [if_neg (by omega), List.getElem?_append_right (by simp only [List.length_map, List.length_cons, List.length_nil]; omega)]
 rw [List.getElem?_append_right (by simp only [List.length_map, List.length_cons, List.length_nil]; omega)] at hk'
 exact hk'
theorem Set_put (t : Nat) (v : Value) (L : List Tb.Rt) (l b hop : Int) (w : World) (hl : L.length ≤ 40) (hw : Tb.Wf L) (h : TAt w t v L) (hg : Tb.get L ⟨l, b⟩ ≠ -2) (h2 : hop ≠ -2) (hho : Tb.hopOK hop) :
  Calls Tryz.prog 79 #[.pointer (some ⟨t, 0, none⟩), .agg #[.int .i64 l, .int .i64 b], .int .i64 hop] w (SetOk t v (Tb.setOk L ⟨l, b⟩ hop) w) := by
 obtain ⟨hok, hlo, hn, e1, e2⟩ := Tb.found_nth hw hg
 have hne : 0 < L.length := by omega
 obtain ⟨g, c, rfl, hnc, hcm, f, hrow, hx⟩ := h.own hne
 have ha : Rs w (some ⟨g, 0, none⟩) L := by
  obtain ⟨a', c', e, hr, _⟩ := h.shape
  cases e;exact hr
 have hcell := h.c0
 have hlt := World.rowIs.lt h.row
 have hgt : g ≠ t := fun e => h.ne (by rw [e]; rfl)
 have HA := zh ha; clear ha; have HW := zh hw; clear hw; have HLL := zh hl; clear hl; have HC := zh hcell; clear hcell; have H := zh h; clear h; have HRow := zh hrow; clear hrow; have HX := zh hx; clear hx
 have hdg := decide_eq_true hg
 have hd := decide_eq_true hok
 have hd2 := decide_eq_true hho
 have hb : (hop == -2) = false := by simpa using h2
 have hb2 : (hop != -2) = true := by simpa using h2
 have hL : Tb.setOk L ⟨l, b⟩ hop = L.take (Tb.lo L ⟨l, b⟩).length ++ ⟨⟨l, b⟩, hop⟩ :: L.drop ((Tb.lo L ⟨l, b⟩).length + 1) := by
  unfold Tb.setOk Tb.mid;rw [if_neg h2, ← e1, ← e2, List.append_assoc]
  rfl
 rw [hL]
 clear e1 e2 hL
 generalize hi : (Tb.lo L ⟨l, b⟩).length = i at *
 have HI := zh hi; clear hi
 have hli : (i : Int) < (L.length : Int) := by omega
 have HD := zh hd; clear hd; have HOK := zh hok; clear hok; have HDG := zh hdg; clear hdg; have HD2 := zh hd2; clear hd2; have HHO := zh hho; clear hho; have HN := zh hn; clear hn
 clear hg h2
 go_enter Tryz.func79, Tryz.ntmps79
 go_upto_region 1 with fail
 refine wp_name fun w1 hw1 => ?_
 have c0 : w1.cell? ⟨w.heap.size, 0, none⟩ = some (.int .i64 l) := by rw [hw1]; simp
 have c1 : w1.cell? ⟨w.heap.size, 1, none⟩ = some (.int .i64 b) := by rw [hw1]; simp
 have hF : Fr NoB w w1 := by rw [hw1]; (repeat (first | exact Fr.refl _ _ | refine Fr.alloc ?_ _ | refine Fr.setNew ?_ (by omega) _ _ | refine Fr.drewN ?_ _ | refine Fr.drew ?_))
 have hc := cell_fr' hF HC.out nB
 clear hw1
 have HF0 := zh hF; clear hF
 go_wp2_with fail
 refine (at_any t (some ⟨g, 0, none⟩) c L l b _ (by have := HLL.out; omega) HW.out (HA.out.keep0 HF0.out) hc).mono ?_
 unfold AtPost
 rw [HDG.out, HI.out]
 rintro e w2 ⟨rfl, hf⟩
 have c0 := cell_fr' hf c0 nB
 have c1 := cell_fr' hf c1 nB
 have hc := cell_fr' hf hc nB
 have HF1 := zh (HF0.out.trans hf)
 clear hf HF0
 go_wp2_with fail
 refine (Check_any l b _).mono ?_
 rw [HD.out]
 rintro e w3 ⟨rfl, hf⟩
 have c0 := cell_fr' hf c0 nB
 have c1 := cell_fr' hf c1 nB
 have hc := cell_fr' hf hc nB
 have HF2 := zh (HF1.out.trans hf)
 clear hf HF1
 go_wp2_with fail
 refine (Hop_any hop _).mono ?_
 rw [HD2.out]
 rintro e w4 ⟨rfl, rfl⟩
 have hr := HF2.out.row HRow.out (fun h => h)
 have x2 := rC hr (i := i * 3 + 2) (by omega)
 have xf := rF hr (i * 3 + 2)
 have hsl0 : SlR w3 0 (.slice (some ⟨g, 0, none⟩) L.length c) L := own_keep H.out.sl HF2.out (fun _ _ h => h)
 have hsl := SlR.setHop hsl0 hlo hop
 rw [HN.out] at hsl
 have HR := zh hr; clear hr; have HSL := zh hsl; clear hsl
 go_wp2
 go_ret
 refine ⟨rfl, .slice (some ⟨g, 0, none⟩) L.length c, ⟨?_, HSL.out, H.out.ne⟩, ?_, fun g' h' => .inl h'⟩
 ·have h1 := HF2.out.row H.out.row (fun h => h)
  exact ((Fr.refl (OneB g) w3).set1 _ _).row h1 (fun e : t = g => hgt e.symm)
 exact (HF2.out.mono (fun _ _ h => h.elim)).setCell (p := ⟨g, i * 3 + 2, none⟩) (.inl (.inr rfl)) _
end Go.Proofs.YtffoilacaffdgaaGreatDoor
