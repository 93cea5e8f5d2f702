/- Walks: (*Table).Set, where it sets nothing. -/
import Derived.Test.YteedndapbfihaaaGreatB24
namespace Go.Proofs.YteedndapbfihaaaGreat
open Go.RowKit Go.Deep

set_option maxRecDepth 100000 in
set_option maxHeartbeats 4000000 in
theorem SetTb_no (t : Nat) (v : Value) (L : List Tb.Rt) (l b hop : Int) (w : World) (hl : L.length ≤ 40) (hw : Tb.Wf L) (h : TAt w t v L) (hc : Tb.setC L ⟨l, b⟩ hop ≠ 0) :
    Calls Tryz.prog 45 #[.pointer (some ⟨t, 0, none⟩), .agg #[.int .i64 l, .int .i64 b], .int .i64 hop] w (IntFr (Tb.setC L ⟨l, b⟩ hop) w) := by
  obtain ⟨a, c, rfl, ha, hs, hcell⟩ := h.shape
  clear h hs
  have HA := Lib.hid ha; clear ha; have HW := Lib.hid hw; clear hw; have HLL := Lib.hid hl; clear hl; have HC := Lib.hid hcell; clear hcell
  by_cases hok : Tb.ok ⟨l, b⟩
  · have hd := decide_eq_true hok
    by_cases h2 : hop = -2
    · subst h2
      by_cases hg : Tb.get L ⟨l, b⟩ = -2
      · have e : Tb.setC L ⟨l, b⟩ (-2) = 6 := by unfold Tb.setC; rw [if_neg (by simp [hok]), if_pos ⟨hg, rfl⟩]
        have hdg := decide_eq_false (show ¬ Tb.get L ⟨l, b⟩ ≠ -2 from fun h => h hg)
        rw [e]
        have HD := Lib.hid hd; clear hd; have HOK := Lib.hid hok; clear hok; have HDG := Lib.hid hdg; clear hdg
        clear e hc hg
        go_enter Tryz.func45, Tryz.ntmps45
        go_upto_region 1 with fail
        refine wp_name fun w1 hw1 => ?_
        have c0 : w1.cell? ⟨w.heap.size, 0, none⟩ = some (.int .i64 l) := by rw [hw1]; simp
        have c1 : w1.cell? ⟨w.heap.size, 1, none⟩ = some (.int .i64 b) := by rw [hw1]; simp
        have hF : Fr NoB w w1 := by rw [hw1]; (repeat (first | exact Fr.refl _ _ | refine Fr.alloc ?_ _ | refine Fr.setNew ?_ (by omega) _ _ | refine Fr.drewN ?_ _ | refine Fr.drew ?_))
        have hc := cell_fr' hF HC.out (fun h => h)
        clear hw1
        have HF0 := Lib.hid hF; clear hF
        go_wp2_with fail
        refine (at_any t a c L l b _ (by have := HLL.out; omega) HW.out (HA.out.keep0 HF0.out) hc).mono ?_
        unfold AtPost
        rw [HDG.out]
        rintro e w2 ⟨rfl, hf⟩
        have c0 := cell_fr' hf c0 (fun h => h)
        have c1 := cell_fr' hf c1 (fun h => h)
        have hc := cell_fr' hf hc (fun h => h)
        have HF1 := Lib.hid (HF0.out.trans hf)
        clear hf HF0
        go_wp2_with fail
        refine (Check_any l b _).mono ?_
        rw [HD.out]
        rintro e w3 ⟨rfl, hf⟩
        have c0 := cell_fr' hf c0 (fun h => h)
        have c1 := cell_fr' hf c1 (fun h => h)
        have hc := cell_fr' hf hc (fun h => h)
        have HF2 := Lib.hid (HF1.out.trans hf)
        clear hf HF1
        go_wp2
        go_ret
        exact ⟨rfl, HF2.out⟩
      · exact absurd (by unfold Tb.setC; rw [if_neg (by simp [hok]), if_neg (fun h => hg h.1), if_neg (fun h => hg h.1)]) hc
    · have hb : (hop == -2) = false := by simpa using h2
      have hb2 : (hop != -2) = true := by simpa using h2
      by_cases hho : Tb.hopOK hop
      · have hd2 := decide_eq_true hho
        by_cases hg : Tb.get L ⟨l, b⟩ = -2
        · by_cases h40 : 40 ≤ L.length
          · have e : Tb.setC L ⟨l, b⟩ hop = 9 := by unfold Tb.setC; rw [if_neg (by simp [hok, hho]), if_neg (fun h => h2 h.2), if_pos ⟨hg, h40⟩]
            have hdg := decide_eq_false (show ¬ Tb.get L ⟨l, b⟩ ≠ -2 from fun h => h hg)
            have hb40 : ((L.length : Int) == 40) = true := by have := HLL.out; simp; omega
            rw [e]
            have HD := Lib.hid hd; clear hd; have HOK := Lib.hid hok; clear hok; have HDG := Lib.hid hdg; clear hdg; have HD2 := Lib.hid hd2; clear hd2; have HHO := Lib.hid hho; clear hho
            clear e hc h2 hg
            go_enter Tryz.func45, Tryz.ntmps45
            go_upto_region 1 with fail
            refine wp_name fun w1 hw1 => ?_
            have c0 : w1.cell? ⟨w.heap.size, 0, none⟩ = some (.int .i64 l) := by rw [hw1]; simp
            have c1 : w1.cell? ⟨w.heap.size, 1, none⟩ = some (.int .i64 b) := by rw [hw1]; simp
            have hF : Fr NoB w w1 := by rw [hw1]; (repeat (first | exact Fr.refl _ _ | refine Fr.alloc ?_ _ | refine Fr.setNew ?_ (by omega) _ _ | refine Fr.drewN ?_ _ | refine Fr.drew ?_))
            have hc := cell_fr' hF HC.out (fun h => h)
            clear hw1
            have HF0 := Lib.hid hF; clear hF
            go_wp2_with fail
            refine (at_any t a c L l b _ (by have := HLL.out; omega) HW.out (HA.out.keep0 HF0.out) hc).mono ?_
            unfold AtPost
            rw [HDG.out]
            rintro e w2 ⟨rfl, hf⟩
            have c0 := cell_fr' hf c0 (fun h => h)
            have c1 := cell_fr' hf c1 (fun h => h)
            have hc := cell_fr' hf hc (fun h => h)
            have HF1 := Lib.hid (HF0.out.trans hf)
            clear hf HF0
            go_wp2_with fail
            refine (Check_any l b _).mono ?_
            rw [HD.out]
            rintro e w3 ⟨rfl, hf⟩
            have c0 := cell_fr' hf c0 (fun h => h)
            have c1 := cell_fr' hf c1 (fun h => h)
            have hc := cell_fr' hf hc (fun h => h)
            have HF2 := Lib.hid (HF1.out.trans hf)
            clear hf HF1
            go_wp2_with fail
            refine (Hop_any hop _).mono ?_
            rw [HD2.out]
            rintro e w4 ⟨rfl, rfl⟩
            go_wp2
            go_ret
            exact ⟨rfl, HF2.out⟩
          · exact absurd (by unfold Tb.setC; rw [if_neg (by simp [hok, hho]), if_neg (fun h => h2 h.2), if_neg (fun h => h40 h.2)]) hc
        · exact absurd (by unfold Tb.setC; rw [if_neg (by simp [hok, hho]), if_neg (fun h => hg h.1), if_neg (fun h => hg h.1)]) hc
      · have hd2 := decide_eq_false hho
        have e : Tb.setC L ⟨l, b⟩ hop = 1 := by unfold Tb.setC; rw [if_pos (.inr ⟨h2, hho⟩)]
        have hdg : ∃ bb, decide (Tb.get L ⟨l, b⟩ ≠ -2) = bb := ⟨_, rfl⟩
        obtain ⟨bb, hdg⟩ := hdg
        rw [e]
        have HD := Lib.hid hd; clear hd; have HOK := Lib.hid hok; clear hok; have HD2 := Lib.hid hd2; clear hd2; have HHO := Lib.hid hho; clear hho; have HDG := Lib.hid hdg; clear hdg
        clear e hc h2
        go_enter Tryz.func45, Tryz.ntmps45
        go_upto_region 1 with fail
        refine wp_name fun w1 hw1 => ?_
        have c0 : w1.cell? ⟨w.heap.size, 0, none⟩ = some (.int .i64 l) := by rw [hw1]; simp
        have c1 : w1.cell? ⟨w.heap.size, 1, none⟩ = some (.int .i64 b) := by rw [hw1]; simp
        have hF : Fr NoB w w1 := by rw [hw1]; (repeat (first | exact Fr.refl _ _ | refine Fr.alloc ?_ _ | refine Fr.setNew ?_ (by omega) _ _ | refine Fr.drewN ?_ _ | refine Fr.drew ?_))
        have hc := cell_fr' hF HC.out (fun h => h)
        clear hw1
        have HF0 := Lib.hid hF; clear hF
        go_wp2_with fail
        refine (at_any t a c L l b _ (by have := HLL.out; omega) HW.out (HA.out.keep0 HF0.out) hc).mono ?_
        unfold AtPost
        rw [HDG.out]
        rintro e w2 ⟨rfl, hf⟩
        have c0 := cell_fr' hf c0 (fun h => h)
        have c1 := cell_fr' hf c1 (fun h => h)
        have hc := cell_fr' hf hc (fun h => h)
        have HF1 := Lib.hid (HF0.out.trans hf)
        clear hf HF0
        go_wp2_with fail
        refine (Check_any l b _).mono ?_
        rw [HD.out]
        rintro e w3 ⟨rfl, hf⟩
        have c0 := cell_fr' hf c0 (fun h => h)
        have c1 := cell_fr' hf c1 (fun h => h)
        have hc := cell_fr' hf hc (fun h => h)
        have HF2 := Lib.hid (HF1.out.trans hf)
        clear hf HF1
        go_wp2_with fail
        refine (Hop_any hop _).mono ?_
        rw [HD2.out]
        rintro e w4 ⟨rfl, rfl⟩
        go_wp2
        go_ret
        exact ⟨rfl, HF2.out⟩
  · have hd := decide_eq_false hok
    have e : Tb.setC L ⟨l, b⟩ hop = 1 := by unfold Tb.setC; rw [if_pos (.inl hok)]
    have hdg : ∃ bb, decide (Tb.get L ⟨l, b⟩ ≠ -2) = bb := ⟨_, rfl⟩
    obtain ⟨bb, hdg⟩ := hdg
    rw [e]
    have HD := Lib.hid hd; clear hd; have HOK := Lib.hid hok; clear hok; have HDG := Lib.hid hdg; clear hdg
    clear e hc
    go_enter Tryz.func45, Tryz.ntmps45
    go_upto_region 1 with fail
    refine wp_name fun w1 hw1 => ?_
    have c0 : w1.cell? ⟨w.heap.size, 0, none⟩ = some (.int .i64 l) := by rw [hw1]; simp
    have c1 : w1.cell? ⟨w.heap.size, 1, none⟩ = some (.int .i64 b) := by rw [hw1]; simp
    have hF : Fr NoB w w1 := by rw [hw1]; (repeat (first | exact Fr.refl _ _ | refine Fr.alloc ?_ _ | refine Fr.setNew ?_ (by omega) _ _ | refine Fr.drewN ?_ _ | refine Fr.drew ?_))
    have hc := cell_fr' hF HC.out (fun h => h)
    clear hw1
    have HF0 := Lib.hid hF; clear hF
    go_wp2_with fail
    refine (at_any t a c L l b _ (by have := HLL.out; omega) HW.out (HA.out.keep0 HF0.out) hc).mono ?_
    unfold AtPost
    rw [HDG.out]
    rintro e w2 ⟨rfl, hf⟩
    have c0 := cell_fr' hf c0 (fun h => h)
    have c1 := cell_fr' hf c1 (fun h => h)
    have hc := cell_fr' hf hc (fun h => h)
    have HF1 := Lib.hid (HF0.out.trans hf)
    clear hf HF0
    go_wp2_with fail
    refine (Check_any l b _).mono ?_
    rw [HD.out]
    rintro e w3 ⟨rfl, hf⟩
    have c0 := cell_fr' hf c0 (fun h => h)
    have c1 := cell_fr' hf c1 (fun h => h)
    have hc := cell_fr' hf hc (fun h => h)
    have HF2 := Lib.hid (HF1.out.trans hf)
    clear hf HF1
    go_wp2
    go_ret
    exact ⟨rfl, HF2.out⟩
end Go.Proofs.YteedndapbfihaaaGreat
/- Walks: (*Table).Set, where it changes a hop. -/
namespace Go.Proofs.YteedndapbfihaaaGreat
open Go.RowKit Go.Deep

def SetOk (t : Nat) (v : Value) (L : List Tb.Rt) (w : World) (e : Ending) (w' : World) : Prop :=
  e = .returned (.int .i64 0) ∧ ∃ v', TAt w' t v' L ∧ Fr (fun k => k = t ∨ v.ownBlock = some k) w w' ∧ ∀ g, v'.ownBlock = some g → v.ownBlock = some g ∨ w.heap.size ≤ g
theorem TAt.store {w w' : World} {t : Nat} {v v' : Value} {L L' : List Tb.Rt} (h : TAt w t v L) (hv : SlR w' 0 v' L') (hf : Fr (fun k => v.ownBlock = some k) w w') (hn : v'.ownBlock ≠ some t) : TAt (w'.setCell ⟨t, 0, none⟩ v') t v' L' := by
  have hr := hf.row h.row (fun e => h.ne e)
  refine ⟨(World.rowIs.set hr 0 v').congr (fun i hi => by rw [if_pos (by omega)]), own_keep hv ((Fr.refl (OneB t) _).set1 _ _) (fun g hg e => hn (by unfold OneB at e; rw [← e]; exact hg)), hn⟩
theorem TAt.own {w : World} {t : Nat} {v : Value} {L : List Tb.Rt} (h : TAt w t v L) (hne : 0 < L.length) : ∃ g c, v = .slice (some ⟨g, 0, none⟩) L.length c ∧ L.length ≤ c ∧ c ≤ maxLen ∧ ∃ f, w.rowIs g 87 (c * 3) f ∧ ∀ k, k < L.length * 3 → ((rtI L).map (Value.int .i64))[k]? = some (f k) := by
  have hs := h.sl
  rcases h.sl.2 with ⟨_, h0⟩ | ⟨g, cap, cur, rfl, _⟩
  · omega
  · obtain ⟨h1, h2, _, f, h3, h4⟩ := own_row hs
    exact ⟨g, cap, rfl, h1, h2, f, h3, h4⟩
theorem SlR.setHop {w : World} {g c : Nat} {L : List Tb.Rt} (h : SlR w 0 (.slice (some ⟨g, 0, none⟩) L.length c) L) {i : Nat} (hi : i < L.length) (hop : Int) :
    SlR (w.setCell ⟨g, i * 3 + 2, none⟩ (.int .i64 hop)) 0 (.slice (some ⟨g, 0, none⟩) L.length c) (L.take i ++ ⟨(Tb.nth L i).p, hop⟩ :: L.drop (i + 1)) := by
  obtain ⟨h1, h2, _, f, hrow, hx⟩ := own_row h
  have hll : (L.take i ++ (⟨(Tb.nth L i).p, hop⟩ : Tb.Rt) :: L.drop (i + 1)).length = L.length := by rw [List.length_append, List.length_cons, List.length_take, List.length_drop]; omega
  unfold SlR
  rw [hll]
  have hr := World.rowIs.set hrow (i * 3 + 2) (.int .i64 hop)
  refine row_own hr (Nat.zero_le _) h1 h2 (by rw [List.length_map, rtI_len, hll]) (fun k hk => ?_)
  have eL : L = L.take i ++ Tb.nth L i :: L.drop (i + 1) := by
    rw [Tb.nth_eq hi, ← List.drop_eq_getElem_cons hi, List.take_append_drop]
  have e1 : rtI L = rtI (L.take i) ++ ([(Tb.nth L i).p.len, (Tb.nth L i).p.bits, (Tb.nth L i).hop] ++ rtI (L.drop (i + 1))) := by
    conv => lhs; rw [eL]
    rw [rtI_app]; rfl
  have e2 : rtI (L.take i ++ (⟨(Tb.nth L i).p, hop⟩ : Tb.Rt) :: L.drop (i + 1)) = rtI (L.take i) ++ ([(Tb.nth L i).p.len, (Tb.nth L i).p.bits, hop] ++ rtI (L.drop (i + 1))) := by rw [rtI_app]; rfl
  have hk' := hx k hk
  rw [e1] at hk'
  rw [e2]
  have l1 : ((rtI (L.take i)).map (Value.int .i64)).length = i * 3 := by rw [List.length_map, rtI_len, List.length_take]; omega
  rw [List.map_append] at hk' ⊢
  by_cases k1 : k < i * 3
  · rw [if_neg (by omega), List.getElem?_append_left (by omega)]
    rw [List.getElem?_append_left (by omega)] at hk'
    exact hk'
  · rw [List.getElem?_append_right (by omega), l1, List.map_append]
    rw [List.getElem?_append_right (by omega), l1, List.map_append] at hk'
    by_cases k2 : k < i * 3 + 3
    · have : k - i * 3 = 0 ∨ k - i * 3 = 1 ∨ k - i * 3 = 2 := by omega
      rcases this with e | e | e
      · rw [if_neg (by omega)]; rw [e] at hk' ⊢; exact hk'
      · rw [if_neg (by omega)]; rw [e] at hk' ⊢; exact hk'
      · rw [if_pos (by omega)]; rw [e]; rfl
    · rw [if_neg (by omega), List.getElem?_append_right (by simp only [List.length_map, List.length_cons, List.length_nil]; omega)]
      rw [List.getElem?_append_right (by simp only [List.length_map, List.length_cons, List.length_nil]; omega)] at hk'
      exact hk'
set_option maxRecDepth 100000 in
set_option maxHeartbeats 4000000 in
theorem Set_put (t : Nat) (v : Value) (L : List Tb.Rt) (l b hop : Int) (w : World) (hl : L.length ≤ 40) (hw : Tb.Wf L) (h : TAt w t v L) (hg : Tb.get L ⟨l, b⟩ ≠ -2) (h2 : hop ≠ -2) (hho : Tb.hopOK hop) :
    Calls Tryz.prog 45 #[.pointer (some ⟨t, 0, none⟩), .agg #[.int .i64 l, .int .i64 b], .int .i64 hop] w (SetOk t v (Tb.setOk L ⟨l, b⟩ hop) w) := by
  obtain ⟨hok, hlo, hn, e1, e2⟩ := Tb.found_nth hw hg
  have hne : 0 < L.length := by omega
  obtain ⟨g, c, rfl, hnc, hcm, f, hrow, hx⟩ := h.own hne
  have ha : Rs w (some ⟨g, 0, none⟩) L := by
    obtain ⟨a', c', e, hr, _⟩ := h.shape
    cases e
    exact hr
  have hcell := h.c0
  have hlt := World.rowIs.lt h.row
  have hgt : g ≠ t := fun e => h.ne (by rw [e]; rfl)
  have HA := Lib.hid ha; clear ha; have HW := Lib.hid hw; clear hw; have HLL := Lib.hid hl; clear hl; have HC := Lib.hid hcell; clear hcell; have H := Lib.hid h; clear h; have HRow := Lib.hid hrow; clear hrow; have HX := Lib.hid hx; clear hx
  have hdg := decide_eq_true hg
  have hd := decide_eq_true hok
  have hd2 := decide_eq_true hho
  have hb : (hop == -2) = false := by simpa using h2
  have hb2 : (hop != -2) = true := by simpa using h2
  have hL : Tb.setOk L ⟨l, b⟩ hop = L.take (Tb.lo L ⟨l, b⟩).length ++ ⟨⟨l, b⟩, hop⟩ :: L.drop ((Tb.lo L ⟨l, b⟩).length + 1) := by
    unfold Tb.setOk Tb.mid
    rw [if_neg h2, ← e1, ← e2, List.append_assoc]
    rfl
  rw [hL]
  clear e1 e2 hL
  generalize hi : (Tb.lo L ⟨l, b⟩).length = i at *
  have HI := Lib.hid hi; clear hi
  have hli : (i : Int) < (L.length : Int) := by omega
  have HD := Lib.hid hd; clear hd; have HOK := Lib.hid hok; clear hok; have HDG := Lib.hid hdg; clear hdg; have HD2 := Lib.hid hd2; clear hd2; have HHO := Lib.hid hho; clear hho; have HN := Lib.hid hn; clear hn
  clear hg h2
  go_enter Tryz.func45, Tryz.ntmps45
  go_upto_region 1 with fail
  refine wp_name fun w1 hw1 => ?_
  have c0 : w1.cell? ⟨w.heap.size, 0, none⟩ = some (.int .i64 l) := by rw [hw1]; simp
  have c1 : w1.cell? ⟨w.heap.size, 1, none⟩ = some (.int .i64 b) := by rw [hw1]; simp
  have hF : Fr NoB w w1 := by rw [hw1]; (repeat (first | exact Fr.refl _ _ | refine Fr.alloc ?_ _ | refine Fr.setNew ?_ (by omega) _ _ | refine Fr.drewN ?_ _ | refine Fr.drew ?_))
  have hc := cell_fr' hF HC.out (fun h => h)
  clear hw1
  have HF0 := Lib.hid hF; clear hF
  go_wp2_with fail
  refine (at_any t (some ⟨g, 0, none⟩) c L l b _ (by have := HLL.out; omega) HW.out (HA.out.keep0 HF0.out) hc).mono ?_
  unfold AtPost
  rw [HDG.out, HI.out]
  rintro e w2 ⟨rfl, hf⟩
  have c0 := cell_fr' hf c0 (fun h => h)
  have c1 := cell_fr' hf c1 (fun h => h)
  have hc := cell_fr' hf hc (fun h => h)
  have HF1 := Lib.hid (HF0.out.trans hf)
  clear hf HF0
  go_wp2_with fail
  refine (Check_any l b _).mono ?_
  rw [HD.out]
  rintro e w3 ⟨rfl, hf⟩
  have c0 := cell_fr' hf c0 (fun h => h)
  have c1 := cell_fr' hf c1 (fun h => h)
  have hc := cell_fr' hf hc (fun h => h)
  have HF2 := Lib.hid (HF1.out.trans hf)
  clear hf HF1
  go_wp2_with fail
  refine (Hop_any hop _).mono ?_
  rw [HD2.out]
  rintro e w4 ⟨rfl, rfl⟩
  have hr := HF2.out.row HRow.out (fun h => h)
  have x2 := World.rowIs.cell hr (i := i * 3 + 2) (by omega)
  have xf := World.rowIs.frozen hr (i * 3 + 2)
  have hsl0 : SlR w3 0 (.slice (some ⟨g, 0, none⟩) L.length c) L := own_keep H.out.sl HF2.out (fun _ _ h => h)
  have hsl := SlR.setHop hsl0 hlo hop
  rw [HN.out] at hsl
  have HR := Lib.hid hr; clear hr; have HSL := Lib.hid hsl; clear hsl
  go_wp2
  go_ret
  refine ⟨rfl, .slice (some ⟨g, 0, none⟩) L.length c, ⟨?_, HSL.out, H.out.ne⟩, ?_, fun g' h' => .inl h'⟩
  · have h1 := HF2.out.row H.out.row (fun h => h)
    exact ((Fr.refl (OneB g) w3).set1 _ _).row h1 (fun e : t = g => hgt e.symm)
  · exact (HF2.out.mono (fun _ _ h => h.elim)).setCell (p := ⟨g, i * 3 + 2, none⟩) (.inl (.inr rfl)) _
end Go.Proofs.YteedndapbfihaaaGreat
/- Walks: (*Table).Set, where it takes a route away. -/
namespace Go.Proofs.YteedndapbfihaaaGreat
open Go.RowKit Go.Deep

set_option maxRecDepth 100000 in
set_option maxHeartbeats 4000000 in
theorem Set_del (t : Nat) (v : Value) (L : List Tb.Rt) (l b hop : Int) (w : World) (hl : L.length ≤ 40) (hw : Tb.Wf L) (h : TAt w t v L) (hg : Tb.get L ⟨l, b⟩ ≠ -2) (h2 : hop = -2) :
    Calls Tryz.prog 45 #[.pointer (some ⟨t, 0, none⟩), .agg #[.int .i64 l, .int .i64 b], .int .i64 hop] w (SetOk t v (Tb.setOk L ⟨l, b⟩ hop) w) := by
  subst h2
  obtain ⟨hok, hlo, hn, e1, e2⟩ := Tb.found_nth hw hg
  have hne : 0 < L.length := by omega
  obtain ⟨g, c, rfl, hnc, hcm, f, hrow, hx⟩ := h.own hne
  have ha : Rs w (some ⟨g, 0, none⟩) L := by
    obtain ⟨a', c', e, hr, _⟩ := h.shape
    cases e
    exact hr
  have hcell := h.c0
  have hlt := World.rowIs.lt h.row
  have hgt : g ≠ t := fun e => h.ne (by rw [e]; rfl)
  have HA := Lib.hid ha; clear ha; have HW := Lib.hid hw; clear hw; have HLL := Lib.hid hl; clear hl; have HC := Lib.hid hcell; clear hcell; have H := Lib.hid h; clear h; have HRow := Lib.hid hrow; clear hrow; have HX := Lib.hid hx; clear hx
  have hdg := decide_eq_true hg
  have hd := decide_eq_true hok
  have hL : Tb.setOk L ⟨l, b⟩ (-2) = L.take (Tb.lo L ⟨l, b⟩).length ++ L.drop ((Tb.lo L ⟨l, b⟩).length + 1) := by
    unfold Tb.setOk Tb.mid
    rw [if_pos rfl, List.append_nil, ← e1, ← e2]
  rw [hL]
  clear e1 e2 hL
  generalize hi : (Tb.lo L ⟨l, b⟩).length = i at *
  have HI := Lib.hid hi; clear hi
  have hli : (i : Int) < (L.length : Int) := by omega
  have hl40 : (L.length : Int) ≤ 40 := by have := HLL.out; omega
  have HD := Lib.hid hd; clear hd; have HOK := Lib.hid hok; clear hok; have HDG := Lib.hid hdg; clear hdg; have HN := Lib.hid hn; clear hn
  clear hg
  go_enter Tryz.func45, Tryz.ntmps45
  go_upto_region 1 with fail
  refine wp_name fun w1 hw1 => ?_
  have c0 : w1.cell? ⟨w.heap.size, 0, none⟩ = some (.int .i64 l) := by rw [hw1]; simp
  have c1 : w1.cell? ⟨w.heap.size, 1, none⟩ = some (.int .i64 b) := by rw [hw1]; simp
  have hF : Fr NoB w w1 := by rw [hw1]; (repeat (first | exact Fr.refl _ _ | refine Fr.alloc ?_ _ | refine Fr.setNew ?_ (by omega) _ _ | refine Fr.drewN ?_ _ | refine Fr.drew ?_))
  have hc := cell_fr' hF HC.out (fun h => h)
  clear hw1
  have HF0 := Lib.hid hF; clear hF
  go_wp2_with fail
  refine (at_any t (some ⟨g, 0, none⟩) c L l b _ (by have := HLL.out; omega) HW.out (HA.out.keep0 HF0.out) hc).mono ?_
  unfold AtPost
  rw [HDG.out, HI.out]
  rintro e w2 ⟨rfl, hf⟩
  have c0 := cell_fr' hf c0 (fun h => h)
  have c1 := cell_fr' hf c1 (fun h => h)
  have hc := cell_fr' hf hc (fun h => h)
  have HF1 := Lib.hid (HF0.out.trans hf)
  clear hf HF0
  go_wp2_with fail
  refine (Check_any l b _).mono ?_
  rw [HD.out]
  rintro e w3 ⟨rfl, hf⟩
  have c0 := cell_fr' hf c0 (fun h => h)
  have c1 := cell_fr' hf c1 (fun h => h)
  have hc := cell_fr' hf hc (fun h => h)
  have HF2 := Lib.hid (HF1.out.trans hf)
  clear hf HF1
  go_wp2_with fail
  have hT := H.out.keep0 HF2.out
  have HT := Lib.hid hT; clear hT
  refine (DeleteT (.slice (some ⟨g, 0, none⟩) L.length c) L i w3 (by have := HLL.out; omega) hlo HT.out.sl).mono ?_
  rintro e w4 ⟨v', rfl, hv, hf, hob⟩
  obtain ⟨a', c', rfl, _⟩ := hv.shape
  generalize (L.take i ++ L.drop (i + 1)).length = n' at *
  have hc := cell_fr' hf hc (fun e : (Value.slice (some ⟨g, 0, none⟩) L.length c).ownBlock = some t => H.out.ne e)
  have hfz := World.rowIs.frozen (hf.row HT.out.row (fun e => H.out.ne e)) 0
  have hn' : (Value.slice a' n' c').ownBlock ≠ some t := by rw [hob]; exact H.out.ne
  have hts := HT.out.store hv hf hn'
  have HTS := Lib.hid hts; clear hts; have HF3 := Lib.hid hf; clear hf; have HOB := Lib.hid hob; clear hob
  clear hv hn'
  go_wp2
  go_ret
  exact ⟨rfl, _, HTS.out, (((HF2.out.mono (fun _ _ h => h.elim)).trans (HF3.out.mono (fun _ _ h => .inr h))).setCell (p := ⟨t, 0, none⟩) (.inl (.inl rfl)) _), fun g' h' => .inl (by rw [← HOB.out]; exact h')⟩
end Go.Proofs.YteedndapbfihaaaGreat
