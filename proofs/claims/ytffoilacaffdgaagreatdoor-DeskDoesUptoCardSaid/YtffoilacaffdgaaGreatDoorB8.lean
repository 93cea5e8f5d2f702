/- Walks: (*Table).Set, where it takes a route away. -/
import Derived.Test.YtffoilacaffdgaaGreatDoorB7
import Derived.Test.YtffoilacaffdgaaGreatDoorB4
import Derived.Test.YtffoilacaffdgaaGreatDoorB5
set_option maxRecDepth 100000
set_option maxHeartbeats 8000000
namespace Go.Proofs.YtffoilacaffdgaaGreatDoor
open Go.RowKit Go.Deep
theorem Set_del (t : Nat) (v : Value) (L : List Tb.Rt) (l b hop : Int) (w : World) (hl : L.length ≤ 40) (hw : Tb.Wf L) (h : TAt w t v L) (hg : Tb.get L ⟨l, b⟩ ≠ -2) (h2 : hop = -2) :
  Calls Tryz.prog 79 #[.pointer (some ⟨t, 0, none⟩), .agg #[.int .i64 l, .int .i64 b], .int .i64 hop] w (SetOk t v (Tb.setOk L ⟨l, b⟩ hop) w) := by
 subst h2
 obtain ⟨hok, hlo, hn, e1, e2⟩ := Tb.found_nth hw hg
 have hne : 0 < L.length := by omega
 obtain ⟨g, c, rfl, hnc, hcm, f, hrow, hx⟩ := h.own hne
 have ha : Rs w (some ⟨g, 0, none⟩) L := by
  obtain ⟨a', c', e, hr, _⟩ := h.shape
  cases e;exact hr
 have hcell := h.c0
 have hlt := World.rowIs.lt h.row
 have hgt : g ≠ t := fun e => h.ne (by rw [e]; rfl)
 have HA := zh ha; clear ha; have HW := zh hw; clear hw; have HLL := zh hl; clear hl; have HC := zh hcell; clear hcell; have H := zh h; clear h; have HRow := zh hrow; clear hrow; have HX := zh hx; clear hx
 have hdg := decide_eq_true hg
 have hd := decide_eq_true hok
 have hL : Tb.setOk L ⟨l, b⟩ (-2) = L.take (Tb.lo L ⟨l, b⟩).length ++ L.drop ((Tb.lo L ⟨l, b⟩).length + 1) := by
  unfold Tb.setOk Tb.mid;rw [if_pos rfl, List.append_nil, ← e1, ← e2]
 rw [hL]
 clear e1 e2 hL
 generalize hi : (Tb.lo L ⟨l, b⟩).length = i at *
 have HI := zh hi; clear hi
 have hli : (i : Int) < (L.length : Int) := by omega
 have hl40 : (L.length : Int) ≤ 40 := by have := HLL.out; omega
 have HD := zh hd; clear hd; have HOK := zh hok; clear hok; have HDG := zh hdg; clear hdg; have HN := zh hn; clear hn
 clear hg
 go_enter Tryz.func79, Tryz.ntmps79
 go_upto_region 1 with fail
 refine wp_name fun w1 hw1 => ?_
 have c0 : w1.cell? ⟨w.heap.size, 0, none⟩ = some (.int .i64 l) := by rw [hw1]; simp
 have c1 : w1.cell? ⟨w.heap.size, 1, none⟩ = some (.int .i64 b) := by rw [hw1]; simp
 have hF : Fr NoB w w1 := by rw [hw1]; (repeat (first | exact Fr.refl _ _ | refine Fr.alloc ?_ _ | refine Fr.setNew ?_ (by omega) _ _ | refine Fr.drewN ?_ _ | refine Fr.drew ?_))
 have hc := cell_fr' hF HC.out nB
 clear hw1
 have HF0 := zh hF; clear hF
 go_wp2_with fail
 refine (at_any t (some ⟨g, 0, none⟩) c L l b _ (by have := HLL.out; omega) HW.out (HA.out.keep0 HF0.out) hc).mono ?_
 unfold AtPost
 rw [HDG.out, HI.out]
 rintro e w2 ⟨rfl, hf⟩
 have c0 := cell_fr' hf c0 nB
 have c1 := cell_fr' hf c1 nB
 have hc := cell_fr' hf hc nB
 have HF1 := zh (HF0.out.trans hf)
 clear hf HF0
 go_wp2_with fail
 refine (Check_any l b _).mono ?_
 rw [HD.out]
 rintro e w3 ⟨rfl, hf⟩
 have c0 := cell_fr' hf c0 nB
 have c1 := cell_fr' hf c1 nB
 have hc := cell_fr' hf hc nB
 have HF2 := zh (HF1.out.trans hf)
 clear hf HF1
 go_wp2_with fail
 have hT := H.out.keep0 HF2.out
 have HT := zh hT; clear hT
 refine (DeleteT (.slice (some ⟨g, 0, none⟩) L.length c) L i w3 (by have := HLL.out; omega) hlo HT.out.sl).mono ?_
 rintro e w4 ⟨v', rfl, hv, hf, hob⟩
 obtain ⟨a', c', rfl, _⟩ := hv.shape
 generalize (L.take i ++ L.drop (i + 1)).length = n' at *
 have hc := cell_fr' hf hc (fun e : (Value.slice (some ⟨g, 0, none⟩) L.length c).ownBlock = some t => H.out.ne e)
 have hfz := rF (hf.row HT.out.row (fun e => H.out.ne e)) 0
 have hn' : (Value.slice a' n' c').ownBlock ≠ some t := by rw [hob]; exact H.out.ne
 have hts := HT.out.store hv hf hn'
 have HTS := zh hts; clear hts; have HF3 := zh hf; clear hf; have HOB := zh hob; clear hob
 clear hv hn'
 go_wp2
 go_ret
 exact ⟨rfl, _, HTS.out, (((HF2.out.mono (fun _ _ h => h.elim)).trans (HF3.out.mono (fun _ _ h => .inr h))).setCell (p := ⟨t, 0, none⟩) (.inl (.inl rfl)) _), fun g' h' => .inl (by rw [← HOB.out]; exact h')⟩
theorem wpAnyH_name {P : Program} {md : Region.Mode} {ops : Array Oper} {Q : Exit → Act → World → Prop} {S : World → Prop} {fuel : Nat} {listed : Array Bool} {a : Act} {W : World} (h : ∀ w1, w1 = W → wpAnyH P md ops Q S fuel listed a w1) : wpAnyH P md ops Q S fuel listed a W := h W rfl
theorem new_row3 (w : World) (r : Tb.Rt) : (w.alloc (.cells #[.int .i64 r.p.len, .int .i64 r.p.bits, .int .i64 r.hop] 134)).rowIs w.heap.size 134 3 (rtV r) := by
 refine World.rowIs_alloc w #[.int .i64 r.p.len, .int .i64 r.p.bits, .int .i64 r.hop] 134 (rtV r) (fun i hi => ?_)
 match i, hi with
 | 0, _ => rfl
 | 1, _ => rfl
 | 2, _ => rfl
theorem Set_new (t : Nat) (v : Value) (L : List Tb.Rt) (l b hop : Int) (w : World) (hl : L.length ≤ 40) (hw : Tb.Wf L) (h : TAt w t v L) (hok : Tb.ok ⟨l, b⟩) (hg : Tb.get L ⟨l, b⟩ = -2) (h2 : hop ≠ -2) (hho : Tb.hopOK hop) (h40 : L.length < 40) :
  Calls Tryz.prog 79 #[.pointer (some ⟨t, 0, none⟩), .agg #[.int .i64 l, .int .i64 b], .int .i64 hop] w (SetOk t v (Tb.setOk L ⟨l, b⟩ hop) w) := by
 obtain ⟨e1, e2⟩ := Tb.notfound_split hw hok hg
 have hil : (Tb.lo L ⟨l, b⟩).length ≤ L.length := Tb.lo_le _ _
 have hlt := World.rowIs.lt h.row
 have hvl : ∀ g, v.ownBlock = some g → g < w.heap.size := fun g hg => (oL h.sl g hg).2
 obtain ⟨a, c, hva, ha, _, hcell⟩ := h.shape
 have HA := zh ha; clear ha; have HW := zh hw; clear hw; have HLL := zh hl; clear hl; have HC := zh hcell; clear hcell; have H := zh h; clear h; have HVL := zh hvl; clear hvl
 have hdg := decide_eq_false (show ¬ Tb.get L ⟨l, b⟩ ≠ -2 from fun h => h hg)
 have hd := decide_eq_true hok
 have hd2 := decide_eq_true hho
 have hb : (hop == -2) = false := by simpa using h2
 have hb2 : (hop != -2) = true := by simpa using h2
 have hb40 : ((L.length : Int) == 40) = false := by simp; omega
 have hL : Tb.setOk L ⟨l, b⟩ hop = L.take (Tb.lo L ⟨l, b⟩).length ++ ⟨⟨l, b⟩, hop⟩ :: L.drop (Tb.lo L ⟨l, b⟩).length := by
  unfold Tb.setOk Tb.mid;rw [if_neg h2, ← e1, ← e2, List.append_assoc]
  rfl
 rw [hL]
 clear e1 e2 hL
 generalize hi : (Tb.lo L ⟨l, b⟩).length = i at *
 have HI := zh hi; clear hi
 have hl40 : (L.length : Int) ≤ 40 := by omega
 have HD := zh hd; clear hd; have HOK := zh hok; clear hok; have HDG := zh hdg; clear hdg; have HD2 := zh hd2; clear hd2; have HHO := zh hho; clear hho; have HIL := zh hil; clear hil; have HVA := zh hva; clear hva
 clear hg h2 h40
 go_enter Tryz.func79, Tryz.ntmps79
 go_upto_region 1 with fail
 refine wp_name fun w1 hw1 => ?_
 have c0 : w1.cell? ⟨w.heap.size, 0, none⟩ = some (.int .i64 l) := by rw [hw1]; simp
 have c1 : w1.cell? ⟨w.heap.size, 1, none⟩ = some (.int .i64 b) := by rw [hw1]; simp
 have hF : Fr NoB w w1 := by rw [hw1]; (repeat (first | exact Fr.refl _ _ | refine Fr.alloc ?_ _ | refine Fr.setNew ?_ (by omega) _ _ | refine Fr.drewN ?_ _ | refine Fr.drew ?_))
 have hc := cell_fr' hF HC.out nB
 clear hw1
 have HF0 := zh hF; clear hF
 go_wp2_with fail
 refine (at_any t a c L l b _ (by have := HLL.out; omega) HW.out (HA.out.keep0 HF0.out) hc).mono ?_
 unfold AtPost
 rw [HDG.out, HI.out]
 rintro e w2 ⟨rfl, hf⟩
 have c0 := cell_fr' hf c0 nB
 have c1 := cell_fr' hf c1 nB
 have hc := cell_fr' hf hc nB
 have HF1 := zh (HF0.out.trans hf)
 clear hf HF0
 go_wp2_with fail
 refine (Check_any l b _).mono ?_
 rw [HD.out]
 rintro e w3 ⟨rfl, hf⟩
 have c0 := cell_fr' hf c0 nB
 have c1 := cell_fr' hf c1 nB
 have hc := cell_fr' hf hc nB
 have HF2 := zh (HF1.out.trans hf)
 clear hf HF1
 go_wp2_with fail
 refine (Hop_any hop _).mono ?_
 rw [HD2.out]
 rintro e w4 ⟨rfl, rfl⟩
 have hT := H.out.keep0 HF2.out
 have hgrow := HF2.out.size
 have hbs : w.heap.size < w3.heap.size := World.block_lt_of_cell? w3 _ c0
 have hv0 : ∀ q, w.heap.size ≤ q → v.ownBlock ≠ some q := fun q hq e => by have := HVL.out q e; omega
 have hkey : ∀ (W w5 : World) (v' : Value), Fr NoB w3 W → SlR w5 0 v' (L.take i ++ ⟨⟨l, b⟩, hop⟩ :: L.drop i) → Fr (fun k => v.ownBlock = some k) W w5 → (∀ g, v'.ownBlock = some g → v.ownBlock = some g ∨ W.heap.size ≤ g) →
   w5.cell? ⟨t, 0, none⟩ = some (.slice a L.length c) ∧ w5.frozen? ⟨t, 0, none⟩ = false ∧ Hid (SetOk t v (L.take i ++ ⟨⟨l, b⟩, hop⟩ :: L.drop i) w (.returned (.int .i64 0)) (w5.setCell ⟨t, 0, none⟩ v')) := by
  intro W w5 v' hW hv hf hob;have hTW := hT.keep0 hW
  have hn' : v'.ownBlock ≠ some t := fun e => by
   rcases hob t e with h | h
   ·exact H.out.ne h
   have := hW.size
   omega
  refine ⟨cell_fr' hf (cell_fr' hW hc nB) (fun e => H.out.ne e), rF (hf.row hTW.row (fun e => H.out.ne e)) 0, rfl, v', hTW.store hv hf hn', ?_, ?_⟩
  ·exact ((((HF2.out.trans hW).mono (fun _ _ h => h.elim)).trans (hf.mono (fun _ _ h => .inr h))).setCell (p := ⟨t, 0, none⟩) (.inl (.inl rfl)) _)
  intro g' hg';rcases hob g' hg' with h | h
  ·exact .inl h
  have := hW.size
  exact .inr (by omega)
 have HV0 := zh hv0
 have HL1 : Hid (L.length ≤ 1000) := by have := HLL.out; show L.length ≤ 1000; omega
 have HKEY := zh hkey
 have HT := zh hT
 clear hv0 hkey hT
 obtain rfl := HVA.out
 go_upto_region 10 with fail
 (refine wp_region_held_drew (S := (fun W => W.cell? ⟨w.heap.size, 0, none⟩ = some (.int .i64 l) ∧ W.cell? ⟨w.heap.size, 1, none⟩ = some (.int .i64 b))) (by kernel_rfl) ⟨c0, c1⟩ (fun hHeld => ?_))
 (refine tk (v := ?_) 0 (by simp only [gx]; rfl) hHeld (.inl ⟨by rfl, ?_⟩) ?_; rotate_left; (focus (intro w k; (try dsimp only at k); go_simp; all_goals with_reducible rfl)); (try simp only [Act.put, px])); (refine tk (v := ?_) 1 (by simp only [gx]; rfl) hHeld (.inl ⟨by rfl, ?_⟩) ?_; rotate_left; (focus (intro w k; (try dsimp only at k); go_simp; all_goals with_reducible rfl)); (try simp only [Act.put, px])); (refine tk (v := ?_) 2 (by simp only [gx]; rfl) hHeld (.inl ⟨by rfl, ?_⟩) ?_; rotate_left; (focus (intro w k; (try dsimp only at k); go_simp; all_goals with_reducible rfl)); (try simp only [Act.put, px])); (refine tk (v := ?_) 3 (by simp only [gx]; rfl) hHeld (.inl ⟨by rfl, ?_⟩) ?_; rotate_left; (focus (intro w k; (try dsimp only at k); go_simp; all_goals with_reducible rfl)); (try simp only [Act.put, px])); (refine tk (v := ?_) 5 (by simp only [gx]; rfl) hHeld (.inl ⟨by rfl, ?_⟩) ?_; rotate_left; (focus (intro w k; (try dsimp only at k); go_simp; all_goals with_reducible rfl)); (try simp only [Act.put, px])); (refine tk (v := ?_) 6 (by simp only [gx]; rfl) hHeld (.inl ⟨by rfl, ?_⟩) ?_; rotate_left; (focus (intro w k; (try dsimp only at k); go_simp; all_goals with_reducible rfl)); (try simp only [Act.put, px])); (refine tk (v := ?_) 7 (by simp only [gx]; rfl) hHeld (.inl ⟨by rfl, ?_⟩) ?_; rotate_left; (focus (intro w k; (try dsimp only at k); go_simp; all_goals with_reducible rfl)); (try simp only [Act.put, px])); (refine tk (v := ?_) 8 (by simp only [gx]; rfl) hHeld (.inl ⟨by rfl, ?_⟩) ?_; rotate_left; (focus (intro w k; (try dsimp only at k); go_simp; all_goals with_reducible rfl)); (try simp only [Act.put, px]))
 refine wpAnyH_ready (rs := [4, 9]) (by kernel_rfl) (by simp) ?_
 refine AllReadyH.cons (by simp only [gx]; rfl) (fun K hK => ?_) (AllReadyH.cons (by simp only [gx]; rfl) (fun K hK => ?_) AllReadyH.nil)
 ·go_simp
  (try go_wp2_with fail)
  refine hK.out _ _ ⟨c0, c1⟩ (fun hHeld => ?_)
  clear hK K;(try simp only [Act.put, px])
  (refine wpAnyH_ready (rs := [9]) (by kernel_rfl) (by simp) ?_; refine AllReadyH.cons (by simp only [gx]; rfl) (fun K hK => ?_) AllReadyH.nil; go_simp); (skip); (try go_wp2_with fail); (refine hK.out _ _ ⟨cell_alloc c0 _, cell_alloc c1 _⟩ (fun hHeld => ?_)); clear hK K; (try simp only [Act.put, px])
  refine wpAnyH_name fun w4 hw4 => ?_
  rw [← hw4] at hHeld;have hF : Fr NoB w3 w4 := by rw [hw4]; exact (Fr.refl _ _).drew.alloc _
  have hrow : w4.rowIs w3.heap.size 134 3 (rtV ⟨⟨l, b⟩, hop⟩) := by rw [hw4]; exact new_row3 _ ⟨⟨l, b⟩, hop⟩
  clear hw4;have q0 := cell_fr' hF c0 nB
  have q1 := cell_fr' hF c1 nB
  have hc4 := cell_fr' hF hc nB
  have HT4 := zh (HT.out.keep0 hF)
  have HRow := zh hrow;have HF4 := zh hF
  clear hrow hF
  (refine wpAnyH_ready (rs := [10]) (by kernel_rfl) (by simp) ?_; refine AllReadyH.cons (by simp only [gx]; rfl) (fun K hK => ?_) AllReadyH.nil; go_simp); (refine (Insert_any (.slice a L.length c) L i ⟨⟨l, b⟩, hop⟩ w3.heap.size _ HL1.out HIL.out HT4.out.sl HRow.out (HV0.out _ hgrow)).mono ?_; rintro e w5 ⟨v', rfl, hv, hf, hob⟩; obtain ⟨a', c', rfl, _⟩ := hv.shape; generalize (L.take i ++ (⟨⟨l, b⟩, hop⟩ : Tb.Rt) :: L.drop i).length = n' at *; obtain ⟨y0, y1, hs⟩ := HKEY.out _ w5 _ HF4.out hv hf hob; have x0 := cell_fr' hf q0 (fun e => HV0.out _ (Nat.le_refl _) e); have x1 := cell_fr' hf q1 (fun e => HV0.out _ (Nat.le_refl _) e); clear hv hf hob); (try go_wp2_with fail); (refine hK.out _ _ ⟨x0, x1⟩ (fun hHeld => ?_)); clear hK K; (try simp only [Act.put, px])
  (refine tk (v := ?_) 11 (by simp only [gx]; rfl) hHeld (.inl ⟨by rfl, ?_⟩) ?_; rotate_left; (focus (intro w k; (try dsimp only at k); go_simp; all_goals with_reducible rfl)); (try simp only [Act.put, px])); (refine tk (v := ?_) 12 (by simp only [gx]; rfl) hHeld (.inl ⟨by rfl, ?_⟩) ?_; rotate_left; (focus (intro w k; (try dsimp only at k); go_simp; all_goals with_reducible rfl)); (try simp only [Act.put, px]))
  (refine wpAnyH_ready (rs := [13]) (by kernel_rfl) (by simp) ?_; refine AllReadyH.cons (by simp only [gx]; rfl) (fun K hK => ?_) AllReadyH.nil; go_simp); (skip); (try go_wp2_with fail); (refine hK.out _ _ ⟨cell_set x0 (Nat.ne_of_gt hlt), cell_set x1 (Nat.ne_of_gt hlt)⟩ (fun hHeld => ?_)); clear hK K; (try simp only [Act.put, px])
  (refine wpAnyH_done (by kernel_rfl) ?_ _)
  go_wp2;go_ret
  exact hs.out
 go_simp
 (try go_wp2_with fail)
 refine hK.out _ _ ⟨cell_alloc c0 _, cell_alloc c1 _⟩ (fun hHeld => ?_)
 clear hK K
 (try simp only [Act.put, px])
 refine wpAnyH_name fun w4 hw4 => ?_
 rw [← hw4] at hHeld
 have hF : Fr NoB w3 w4 := by rw [hw4]; exact (Fr.refl _ _).drew.alloc _
 have hrow : w4.rowIs w3.heap.size 134 3 (rtV ⟨⟨l, b⟩, hop⟩) := by rw [hw4]; exact new_row3 _ ⟨⟨l, b⟩, hop⟩
 clear hw4
 have q0 := cell_fr' hF c0 nB
 have q1 := cell_fr' hF c1 nB
 have hc4 := cell_fr' hF hc nB
 have HT4 := zh (HT.out.keep0 hF)
 have HRow := zh hrow
 have HF4 := zh hF
 clear hrow hF
 (refine wpAnyH_ready (rs := [4]) (by kernel_rfl) (by simp) ?_; refine AllReadyH.cons (by simp only [gx]; rfl) (fun K hK => ?_) AllReadyH.nil; go_simp); (skip); (try go_wp2_with fail); (refine hK.out _ _ ⟨q0, q1⟩ (fun hHeld => ?_)); clear hK K; (try simp only [Act.put, px])
 (refine wpAnyH_ready (rs := [10]) (by kernel_rfl) (by simp) ?_; refine AllReadyH.cons (by simp only [gx]; rfl) (fun K hK => ?_) AllReadyH.nil; go_simp); (refine (Insert_any (.slice a L.length c) L i ⟨⟨l, b⟩, hop⟩ w3.heap.size _ HL1.out HIL.out HT4.out.sl HRow.out (HV0.out _ hgrow)).mono ?_; rintro e w5 ⟨v', rfl, hv, hf, hob⟩; obtain ⟨a', c', rfl, _⟩ := hv.shape; generalize (L.take i ++ (⟨⟨l, b⟩, hop⟩ : Tb.Rt) :: L.drop i).length = n' at *; obtain ⟨y0, y1, hs⟩ := HKEY.out _ w5 _ HF4.out hv hf hob; have x0 := cell_fr' hf q0 (fun e => HV0.out _ (Nat.le_refl _) e); have x1 := cell_fr' hf q1 (fun e => HV0.out _ (Nat.le_refl _) e); clear hv hf hob); (try go_wp2_with fail); (refine hK.out _ _ ⟨x0, x1⟩ (fun hHeld => ?_)); clear hK K; (try simp only [Act.put, px])
 (refine tk (v := ?_) 11 (by simp only [gx]; rfl) hHeld (.inl ⟨by rfl, ?_⟩) ?_; rotate_left; (focus (intro w k; (try dsimp only at k); go_simp; all_goals with_reducible rfl)); (try simp only [Act.put, px])); (refine tk (v := ?_) 12 (by simp only [gx]; rfl) hHeld (.inl ⟨by rfl, ?_⟩) ?_; rotate_left; (focus (intro w k; (try dsimp only at k); go_simp; all_goals with_reducible rfl)); (try simp only [Act.put, px]))
 (refine wpAnyH_ready (rs := [13]) (by kernel_rfl) (by simp) ?_; refine AllReadyH.cons (by simp only [gx]; rfl) (fun K hK => ?_) AllReadyH.nil; go_simp); (skip); (try go_wp2_with fail); (refine hK.out _ _ ⟨cell_set x0 (Nat.ne_of_gt hlt), cell_set x1 (Nat.ne_of_gt hlt)⟩ (fun hHeld => ?_)); clear hK K; (try simp only [Act.put, px])
 (refine wpAnyH_done (by kernel_rfl) ?_ _)
 go_wp2
 go_ret
 exact hs.out
def TB (t : Nat) (v : Value) (k : Nat) : Prop := k = t ∨ v.ownBlock = some k
def SetTbPost (t : Nat) (v : Value) (L : List Tb.Rt) (p : Tb.Pf) (hop : Int) (w : World) (e : Ending) (w' : World) : Prop :=
 e = .returned (.int .i64 (Tb.setC L p hop)) ∧ ∃ v', TAt w' t v' (Tb.setL L p hop) ∧ Fr (TB t v) w w' ∧ ∀ g, v'.ownBlock = some g → v.ownBlock = some g ∨ w.heap.size ≤ g
theorem Set_any (t : Nat) (v : Value) (L : List Tb.Rt) (l b hop : Int) (w : World) (hl : L.length ≤ 40) (hw : Tb.Wf L) (h : TAt w t v L) :
  Calls Tryz.prog 79 #[.pointer (some ⟨t, 0, none⟩), .agg #[.int .i64 l, .int .i64 b], .int .i64 hop] w (SetTbPost t v L ⟨l, b⟩ hop w) := by
 by_cases hc : Tb.setC L ⟨l, b⟩ hop = 0
 ·obtain ⟨hok, h2, h3, h4⟩ := Tb.setC_0 hc
  have hL : Tb.setL L ⟨l, b⟩ hop = Tb.setOk L ⟨l, b⟩ hop := by unfold Tb.setL; rw [if_pos hc]
  have key : Calls Tryz.prog 79 #[.pointer (some ⟨t, 0, none⟩), .agg #[.int .i64 l, .int .i64 b], .int .i64 hop] w (SetOk t v (Tb.setOk L ⟨l, b⟩ hop) w) := by
   by_cases hg : Tb.get L ⟨l, b⟩ = -2
   ·have h5 : hop ≠ -2 := fun e => h3 ⟨hg, e⟩
    exact Set_new t v L l b hop w hl hw h hok hg h5 (h2.resolve_left h5) (by have : ¬ 40 ≤ L.length := fun k => h4 ⟨hg, k⟩; omega)
   by_cases h5 : hop = -2
   ·exact Set_del t v L l b hop w hl hw h hg h5
   exact Set_put t v L l b hop w hl hw h hg h5 (h2.resolve_left h5)
  refine key.mono ?_
  rintro e w' ⟨rfl, v', h1, h2, h3⟩
  exact ⟨by rw [hc], v', by rw [hL]; exact h1, h2, h3⟩
 have hL : Tb.setL L ⟨l, b⟩ hop = L := by unfold Tb.setL; rw [if_neg hc]
 refine (SetTb_no t v L l b hop w hl hw h hc).mono ?_
 rintro e w' ⟨rfl, hf⟩
 exact ⟨rfl, v, by rw [hL]; exact h.keep0 hf, hf.mono (fun _ _ h => h.elim), fun g hg => .inl hg⟩
def SoPost (a : Option Addr) (L : List Tb.Rt) (p : Tb.Pf) (hop : Int) (w : World) (e : Ending) (w' : World) : Prop :=
 ∃ a' c', e = .returned (.tuple #[.slice a' (Tb.setL L p hop).length c', .int .i64 (Tb.setC L p hop)]) ∧ Rs w' a' (Tb.setL L p hop) ∧
  (∀ q, a' = some q → q.spot = none ∧ (a = some q ∨ (w.heap.size ≤ q.block ∧ q.block < w'.heap.size))) ∧ Fr NoB w w'
theorem SetOf_any (a : Option Addr) (c : Nat) (L : List Tb.Rt) (l b hop : Int) (w : World) (hl : L.length ≤ 1000) (hw : Tb.Wf L) (ha : Rs w a L) (hs : ∀ q, a = some q → q.spot = none) :
  Calls Tryz.prog 98 #[.slice a L.length c, .agg #[.int .i64 l, .int .i64 b], .int .i64 hop] w (SoPost a L ⟨l, b⟩ hop w) := by
 by_cases hc : Tb.setC L ⟨l, b⟩ hop = 0
 ·obtain ⟨hok, h2, h3, h4⟩ := Tb.setC_0 hc
  have hL : Tb.setL L ⟨l, b⟩ hop = Tb.soEnd (Tb.soF L ⟨l, b⟩ hop) ⟨l, b⟩ hop := by unfold Tb.setL; rw [if_pos hc, Tb.so_end hw hok]
  have key : Calls Tryz.prog 98 #[.slice a L.length c, .agg #[.int .i64 l, .int .i64 b], .int .i64 hop] w (SoOk L ⟨l, b⟩ hop w) := by
   by_cases hg : Tb.get L ⟨l, b⟩ = -2
   ·have h5 : hop ≠ -2 := fun e => h3 ⟨hg, e⟩
    exact SetOf_new a c L l b hop w hl ha hok h5 (h2.resolve_left h5) hg (by have : ¬ 40 ≤ L.length := fun k => h4 ⟨hg, k⟩; omega)
   by_cases h5 : hop = -2
   ·exact SetOf_del a c L l b hop w hl ha hok h5 hg
   exact SetOf_put a c L l b hop w hl ha hok h5 (h2.resolve_left h5) hg
  refine key.mono ?_
  rintro e w' ⟨v, rfl, hv, hf⟩
  rw [← hL] at hv;obtain ⟨a', c', rfl, hr, hb, _⟩ := hv.shape
  obtain ⟨_, _, e2, _, _, _, _, _, hz⟩ := ownsRow_rd hv
  cases e2;refine ⟨a', c', by rw [hc], hr, fun q hq => ⟨by rw [hz q hq], .inr ⟨(hb q hq).1, (oL hv _ (hb q hq).2).2⟩⟩, hf⟩
 have hL : Tb.setL L ⟨l, b⟩ hop = L := by unfold Tb.setL; rw [if_neg hc]
 refine (SetOf_no a c L l b hop w hl ha hc).mono ?_
 rintro e w' ⟨rfl, hf⟩
 refine ⟨a, c, by rw [hL], by rw [hL]; exact ha.keep0 hf, fun q hq => ⟨hs q hq, .inl hq⟩, hf⟩
end Go.Proofs.YtffoilacaffdgaaGreatDoor
namespace Go.Proofs.YtffoilacaffdgaaGreatDoor.Nt
open Nd
def Bet (t : NT) (dst p q : Nat) : Prop := betB ((t.N q).bS dst) ((t.N q).bD dst) ((t.N p).bS dst) ((t.N p).bD dst) = true
theorem hop_self {t : NT} {n dst : Nat} (h : Str t n) (hd : dst < 6) : hopT t dst dst = dst := by
 unfold hopT
 rw [Int.toNat_natCast, wayAt, if_pos ⟨by omega, by omega⟩, Int.toNat_natCast]
 have := (h.ok.run dst hd).own.h
 rw [h.ok.me dst hd] at this
 exact this
theorem hop_step {t : NT} {n dst p : Nat} (h : Str t n) (hd : dst < 6) (hp : p < 6) (hne : p ≠ dst) (hN : isN (hopT t dst p)) : ∃ f : Nat, f < 6 ∧ hopT t dst p = f ∧ 0 < t.C p f ∧ Bet t dst p f := by
 have e : hopT t dst p = (t.N p).wH dst := by
  unfold hopT;rw [Int.toNat_natCast, wayAt, if_pos ⟨by omega, by omega⟩, Int.toNat_natCast]
  rfl
 rw [e] at hN ⊢
 have hm : dst ≠ (t.N p).me := by rw [h.ok.me p hp]; exact fun e => hne e.symm
 obtain ⟨f, a1, a2, a3, _, _, _, a7, _⟩ := ((h.nice p hp).bst.way dst hd hm).via (fun h => by unfold isN at hN; omega)
 rw [h.cost p f hp a1] at a3
 refine ⟨f, a1, a2, a3, ?_⟩
 have h1 := h.heard p f dst hp a1 hd
 unfold Bet
 rw [betB_no] at h1
 rw [betB_iff] at a7 ⊢
 omega
end Go.Proofs.YtffoilacaffdgaaGreatDoor.Nt
namespace Go.Proofs.YtffoilacaffdgaaGreatDoor.Tb
theorem look_keep {a : Int} : ∀ (L : List Rt) (h : Int), (∀ r ∈ L, ¬ has r.p a) → L.foldl (lookF a) h = h
 | [], _, _ => rfl
 | r :: L, h, k => by
  rw [List.foldl_cons];have : lookF a h r = h := by unfold lookF; rw [if_neg (k r (List.mem_cons_self ..))]
  rw [this];exact look_keep L h (fun s hs => k s (List.mem_cons_of_mem _ hs))
inductive Tr where
 | leaf (p : Pf) (hop : Int)
 | node (p : Pf) (low high : Tr)
def Tr.root : Tr → Pf
 | .leaf p _ => p
 | .node p _ _ => p
def Tr.isLeaf : Tr → Bool
 | .leaf _ _ => true
 | .node _ _ _ => false
def Tr.hop0 : Tr → Int
 | .leaf _ h => h
 | .node _ _ _ => 0
def child (p : Pf) (bit : Int) : Pf := ⟨p.len + 1, p.bits * 2 + bit⟩
def join (p : Pf) (a b : Tr) : Tr := if a.isLeaf = true ∧ b.isLeaf = true ∧ a.hop0 = b.hop0 then .leaf p a.hop0 else .node p a b
def lowH (hs : List Int) : List Int := hs.take (hs.length / 2)
def highH (hs : List Int) : List Int := hs.drop (hs.length / 2)
def mkT : Nat → Pf → List Int → Tr
 | 0, p, hs => .leaf p (hs.getD 0 0)
 | d + 1, p, hs => join p (mkT d (child p 0) (lowH hs)) (mkT d (child p 1) (highH hs))
def leaves : Tr → List Rt
 | .leaf p h => [⟨p, h⟩]
 | .node _ l h => leaves l ++ leaves h
def alike (hs : List Int) : Prop := ∀ k, k < hs.length → hs.getD k 0 = hs.getD 0 0
instance (hs : List Int) : Decidable (alike hs) := by unfold alike; infer_instance
def lv : Nat → Pf → List Int → List Rt
 | 0, p, hs => [⟨p, hs.getD 0 0⟩]
 | d + 1, p, hs => if alike hs then [⟨p, hs.getD 0 0⟩] else lv d (child p 0) (lowH hs) ++ lv d (child p 1) (highH hs)
def Fit (d : Nat) (p : Pf) (hs : List Int) : Prop := Tb.ok p ∧ p.len + d = 8 ∧ (hs.length : Int) = span p
theorem span_child {p : Pf} (_ : Tb.ok p) (hl : p.len < 8) (b : Int) : span p = span (child p b) * 2 := by
 unfold span child
 dsimp only
 rw [show (8 - p.len).toNat = (8 - (p.len + 1)).toNat + 1 from by omega, Int.pow_succ]
theorem ok_child {p : Pf} (h : Tb.ok p) (hl : p.len < 8) {b : Int} (h0 : 0 ≤ b) (h1 : b ≤ 1) : Tb.ok (child p b) := by
 obtain ⟨a1, a2, a3, a4⟩ := h
 refine ⟨by show 0 ≤ p.len + 1; omega, by show p.len + 1 ≤ 8; omega, by show 0 ≤ p.bits * 2 + b; omega, ?_⟩
 show p.bits * 2 + b < 2 ^ (p.len + 1).toNat
 rw [show (p.len + 1).toNat = p.len.toNat + 1 from by omega, Int.pow_succ]
 generalize (2 : Int) ^ p.len.toNat = X at *
 omega
theorem span_pos {p : Pf} (h : Tb.ok p) : 1 ≤ span p := by
 rcases ok_cases h with h | h | h | h | h | h | h | h | h <;> (obtain ⟨_, e, _⟩ := h; rw [e]; omega)
theorem fst_child {p : Pf} (h : Tb.ok p) (hl : p.len < 8) : fst (child p 0) = fst p ∧ fst (child p 1) = fst p + span (child p 1) := by
 rw [fst_ok h, fst_ok (ok_child h hl (by omega) (by omega)), fst_ok (ok_child h hl (by omega) (by omega))]
 have e0 := span_child h hl 0
 have e1 := span_child h hl 1
 generalize hs0 : span (child p 0) = s0 at *
 generalize hs1 : span (child p 1) = s1 at *
 have e : s0 = s1 := by omega
 subst e
 rw [e0]
 show (p.bits * 2 + 0) * s0 = p.bits * (s0 * 2) ∧ (p.bits * 2 + 1) * s0 = p.bits * (s0 * 2) + s0
 rw [Int.add_zero, Int.add_mul, Int.one_mul, Int.mul_assoc, Int.mul_comm 2 s0]
 exact ⟨rfl, rfl⟩
theorem lst_fst {p : Pf} (h : Tb.ok p) : lst p = fst p + span p - 1 := by rw [lst_ok h, fst_ok h]
theorem Fit.lt {d : Nat} {p : Pf} {hs : List Int} (h : Fit (d + 1) p hs) : p.len < 8 := by have := h.2.1; omega
theorem Fit.half {d : Nat} {p : Pf} {hs : List Int} (h : Fit (d + 1) p hs) : ((hs.length / 2 : Nat) : Int) = span (child p 0) ∧ span (child p 0) = span (child p 1) ∧ hs.length = hs.length / 2 + hs.length / 2 := by
 have e0 := span_child h.1 h.lt 0
 have e1 := span_child h.1 h.lt 1
 have := h.2.2
 omega
theorem lowH_len (hs : List Int) : (lowH hs).length = hs.length / 2 := by unfold lowH; rw [List.length_take]; omega
theorem highH_len (hs : List Int) : (highH hs).length = hs.length - hs.length / 2 := by unfold highH; rw [List.length_drop]
theorem lowH_get {hs : List Int} {k : Nat} (h : k < hs.length / 2) : (lowH hs).getD k 0 = hs.getD k 0 := by
 unfold lowH
 rw [List.getD_eq_getElem?_getD, List.getElem?_take, if_pos h, ← List.getD_eq_getElem?_getD]
theorem highH_get (hs : List Int) (k : Nat) : (highH hs).getD k 0 = hs.getD (hs.length / 2 + k) 0 := by
 unfold highH
 rw [List.getD_eq_getElem?_getD, List.getElem?_drop, ← List.getD_eq_getElem?_getD]
theorem Fit.low {d : Nat} {p : Pf} {hs : List Int} (h : Fit (d + 1) p hs) : Fit d (child p 0) (lowH hs) :=
 ⟨ok_child h.1 h.lt (by omega) (by omega), by show p.len + 1 + d = 8; have := h.2.1; omega, by rw [lowH_len]; exact h.half.1⟩
theorem Fit.high {d : Nat} {p : Pf} {hs : List Int} (h : Fit (d + 1) p hs) : Fit d (child p 1) (highH hs) :=
 ⟨ok_child h.1 h.lt (by omega) (by omega), by show p.len + 1 + d = 8; have := h.2.1; omega, by rw [highH_len]; have := h.half; omega⟩
theorem Fit.pos {d : Nat} {p : Pf} {hs : List Int} (h : Fit d p hs) : 0 < hs.length := by have := span_pos h.1; have := h.2.2; omega
theorem alike_half {d : Nat} {p : Pf} {hs : List Int} (h : Fit (d + 1) p hs) : alike hs ↔ alike (lowH hs) ∧ alike (highH hs) ∧ (lowH hs).getD 0 0 = (highH hs).getD 0 0 := by
 have hp := h.low.pos
 have hq := h.high.pos
 have hh := h.half.2.2
 rw [lowH_len] at hp
 constructor
 ·intro ha;refine ⟨fun k hk => ?_, fun k hk => ?_, ?_⟩
  ·rw [lowH_len] at hk;rw [lowH_get hk, lowH_get hp]
   exact ha k (by omega)
  ·rw [highH_len] at hk;rw [highH_get, highH_get]
   exact (ha _ (by omega)).trans (ha _ (by omega)).symm
  rw [lowH_get hp, highH_get];exact (ha _ (by omega)).trans (ha _ (by omega)).symm
 rintro ⟨h1, h2, h3⟩ k hk
 rw [lowH_get hp] at h3
 by_cases c : k < hs.length / 2
 ·have := h1 k (by rw [lowH_len]; exact c)
  rwa [lowH_get c, lowH_get hp] at this
 have := h2 (k - hs.length / 2) (by rw [highH_len]; omega)
 rw [← h3, highH_get, show hs.length / 2 + (k - hs.length / 2) = k from by omega] at this
 exact this
theorem mkT_alike : ∀ (d : Nat) (p : Pf) (hs : List Int), Fit d p hs → ((mkT d p hs).isLeaf = true ↔ alike hs) ∧ (alike hs → mkT d p hs = .leaf p (hs.getD 0 0))
 | 0, p, hs, h => by
  refine ⟨⟨fun _ k hk => ?_, fun _ => rfl⟩, fun _ => rfl⟩
  have h1 := h.2.2
  have h2 := h.2.1
  have : span p = 1 := by
   rcases ok_cases h.1 with h | h | h | h | h | h | h | h | h <;> (obtain ⟨e, e2, _⟩ := h; omega)
  have : k = 0 := by omega
  rw [this]
 | d + 1, p, hs, h => by
  obtain ⟨l1, l2⟩ := mkT_alike d (child p 0) (lowH hs) h.low
  obtain ⟨r1, r2⟩ := mkT_alike d (child p 1) (highH hs) h.high
  have ha := alike_half h
  have hl0 : (lowH hs).getD 0 0 = hs.getD 0 0 := lowH_get (by have := h.low.pos; rwa [lowH_len] at this)
  by_cases k : alike hs
  ·obtain ⟨k1, k2, k3⟩ := ha.1 k
   have e : mkT (d + 1) p hs = .leaf p (hs.getD 0 0) := by
    show join p (mkT d (child p 0) (lowH hs)) (mkT d (child p 1) (highH hs)) = _
    rw [l2 k1, r2 k2];unfold join
    rw [if_pos ⟨rfl, rfl, k3⟩];show Tr.leaf p ((lowH hs).getD 0 0) = _
    rw [hl0]
   rw [e];exact ⟨⟨fun _ => k, fun _ => rfl⟩, fun _ => rfl⟩
  have e : mkT (d + 1) p hs = .node p (mkT d (child p 0) (lowH hs)) (mkT d (child p 1) (highH hs)) := by
   show join p (mkT d (child p 0) (lowH hs)) (mkT d (child p 1) (highH hs)) = _
   unfold join;rw [if_neg]
   rintro ⟨h1, h2, h3⟩
   refine k (ha.2 ⟨l1.1 h1, r1.1 h2, ?_⟩)
   rw [l2 (l1.1 h1), r2 (r1.1 h2)] at h3;exact h3
  rw [e];exact ⟨⟨fun h => (by cases h), fun h => absurd h k⟩, fun h => absurd h k⟩
theorem mkT_node {d : Nat} {p : Pf} {hs : List Int} (h : Fit (d + 1) p hs) (k : ¬ alike hs) : mkT (d + 1) p hs = .node p (mkT d (child p 0) (lowH hs)) (mkT d (child p 1) (highH hs)) := by
 have hn : (mkT (d + 1) p hs).isLeaf ≠ true := fun e => k ((mkT_alike (d + 1) p hs h).1.1 e)
 revert hn
 show (join p (mkT d (child p 0) (lowH hs)) (mkT d (child p 1) (highH hs))).isLeaf ≠ true → join p (mkT d (child p 0) (lowH hs)) (mkT d (child p 1) (highH hs)) = _
 unfold join
 split
 ·intro h; exact absurd rfl h
 intro _; rfl
theorem mkT_leaves : ∀ (d : Nat) (p : Pf) (hs : List Int), Fit d p hs → leaves (mkT d p hs) = lv d p hs
 | 0, _, _, _ => rfl
 | d + 1, p, hs, h => by
  unfold lv;by_cases k : alike hs
  ·rw [if_pos k, (mkT_alike (d + 1) p hs h).2 k]; rfl
  rw [if_neg k, mkT_node h k];show leaves _ ++ leaves _ = _
  rw [mkT_leaves d _ _ h.low, mkT_leaves d _ _ h.high]
theorem fst00' : fst ⟨0, 0⟩ = 0 := by decide
theorem lst00' : lst ⟨0, 0⟩ + 1 = 256 := by decide
theorem look_hopOK {L : List Rt} (hw : Wf L) (a : Int) : hopOK (look L a) := by
 unfold look
 suffices h : ∀ (R : List Rt) (s : Int), (∀ r ∈ R, hopOK r.hop) → hopOK s → hopOK (R.foldl (lookF a) s) from h L (-1) (fun r hr => (hw.1 r hr).2) (by decide)
 intro R
 induction R with
 | nil => exact fun s _ h => h
 | cons q R ih =>
  intro s h1 h2;rw [List.foldl_cons]
  refine ih _ (fun r hr => h1 r (List.mem_cons_of_mem _ hr)) ?_
  unfold lookF;split
  ·exact h1 q (List.mem_cons_self ..)
  exact h2
theorem allOf_ext {L M : List Rt} (h : ∀ n : Nat, n < 256 → look L n = look M n) : allOf L = allOf M := by
 unfold allOf
 apply List.map_congr_left
 intro n hn
 exact h n (List.mem_range.1 hn)
def hops7 : List Int := [-1, 0, 1, 2, 3, 4, 5]
theorem mem7 {h : Int} : h ∈ hops7 ↔ hopOK h := by
 unfold hops7 hopOK
 simp only [List.mem_cons, List.not_mem_nil, or_false]
 omega
def both (a b : Int → Bool) : Bool := hops7.any fun h => a h && b h
def mix (a b : Int → Bool) : Int → Bool := fun h => if both a b then a h && b h else a h || b h
def wsh : Nat → List Int → Int → Bool
 | 0, hs => fun h => h == hs.getD 0 0
 | d + 1, hs => mix (wsh d (lowH hs)) (wsh d (highH hs))
def mn : Nat → List Int → Nat
 | 0, _ => 0
 | d + 1, hs => mn d (lowH hs) + mn d (highH hs) + if both (wsh d (lowH hs)) (wsh d (highH hs)) then 0 else 1
def HopsOK (hs : List Int) : Prop := ∀ k, k < hs.length → hopOK (hs.getD k 0)
theorem HopsOK.low {hs : List Int} (h : HopsOK hs) : HopsOK (lowH hs) := fun k hk => by
 rw [lowH_len] at hk
 rw [lowH_get hk]
 exact h k (by omega)
theorem HopsOK.high {hs : List Int} (h : HopsOK hs) : HopsOK (highH hs) := fun k hk => by
 rw [highH_len] at hk
 rw [highH_get]
 exact h _ (by omega)
theorem both_iff {a b : Int → Bool} : both a b = true ↔ ∃ h, hopOK h ∧ a h = true ∧ b h = true := by
 unfold both
 rw [List.any_eq_true]
 constructor
 ·rintro ⟨h, h1, h2⟩
  rw [Bool.and_eq_true] at h2;exact ⟨h, mem7.1 h1, h2⟩
 rintro ⟨h, h1, h2⟩
 exact ⟨h, mem7.2 h1, by rw [Bool.and_eq_true]; exact h2⟩
def Wish (f : Int → Bool) : Prop := (∀ h, f h = true → hopOK h) ∧ ∃ h, f h = true
theorem Wish.mix {a b : Int → Bool} (ha : Wish a) (hb : Wish b) : Wish (mix a b) := by
 by_cases h : both a b = true
 ·have e : ∀ k, Tb.mix a b k = (a k && b k) := fun k => by unfold Tb.mix; rw [if_pos h]
  refine ⟨fun k hk => ?_, ?_⟩
  ·rw [e, Bool.and_eq_true] at hk;exact ha.1 k hk.1
  obtain ⟨k, _, h1, h2⟩ := both_iff.1 h
  exact ⟨k, by rw [e, h1, h2]; rfl⟩
 have e : ∀ k, Tb.mix a b k = (a k || b k) := fun k => by unfold Tb.mix; rw [if_neg h]
 refine ⟨fun k hk => ?_, ?_⟩
 ·rw [e, Bool.or_eq_true] at hk;rcases hk with hk | hk
  ·exact ha.1 k hk
  exact hb.1 k hk
 obtain ⟨k, hk⟩ := ha.2
 exact ⟨k, by rw [e, hk]; rfl⟩
theorem wsh_wish : ∀ (d : Nat) (p : Pf) (hs : List Int), Fit d p hs → HopsOK hs → Wish (wsh d hs)
 | 0, p, hs, hf, hh => ⟨fun h hk => by
   have e : h = hs.getD 0 0 := by simpa [wsh] using hk
   rw [e];exact hh 0 hf.pos, hs.getD 0 0, by simp [wsh]⟩
 | d + 1, p, hs, hf, hh => Wish.mix (wsh_wish d _ _ hf.low hh.low) (wsh_wish d _ _ hf.high hh.high)
theorem mix_same {x : Int} (hx : hopOK x) : mix (fun h => h == x) (fun h => h == x) = fun h => h == x := by
 have hb : both (fun h => h == x) (fun h => h == x) = true := both_iff.2 ⟨x, hx, by simp, by simp⟩
 funext h
 unfold mix
 rw [if_pos hb, Bool.and_self]
theorem wsh_alike : ∀ (d : Nat) (p : Pf) (hs : List Int), Fit d p hs → HopsOK hs → alike hs → (wsh d hs = fun h => h == hs.getD 0 0) ∧ mn d hs = 0
 | 0, _, _, _, _, _ => ⟨rfl, rfl⟩
 | d + 1, p, hs, hf, hh, ha => by
  obtain ⟨h1, h2, h3⟩ := (alike_half hf).1 ha
  obtain ⟨e1, m1⟩ := wsh_alike d _ _ hf.low hh.low h1
  obtain ⟨e2, m2⟩ := wsh_alike d _ _ hf.high hh.high h2
  have e0 : (lowH hs).getD 0 0 = hs.getD 0 0 := by
   have := hf.half
   have := hf.low.pos
   rw [lowH_len] at this;exact lowH_get this
  rw [← h3, e0] at e2;rw [e0] at e1
  have hx := hh 0 hf.pos
  refine ⟨?_, ?_⟩
  ·show mix (wsh d (lowH hs)) (wsh d (highH hs)) = _
   rw [e1, e2];exact mix_same hx
  show mn d (lowH hs) + mn d (highH hs) + _ = 0
  rw [m1, m2, e1, e2, if_pos (both_iff.2 ⟨hs.getD 0 0, hx, by simp, by simp⟩)]
def fstW (f : Int → Bool) : Int := (hops7.filter f).headD 0
theorem fstW_in {f : Int → Bool} (h : Wish f) : f (fstW f) = true ∧ ∀ k, f k = true → fstW f ≤ k := by
 obtain ⟨k, hk⟩ := h.2
 have hm : k ∈ hops7.filter f := List.mem_filter.2 ⟨mem7.2 (h.1 k hk), hk⟩
 have hp : (hops7.filter f).Pairwise (· < ·) := List.Pairwise.filter f (by unfold hops7; decide)
 unfold fstW
 cases e : hops7.filter f with
 | nil => rw [e] at hm; cases hm
 | cons x r =>
  rw [e] at hp;have hx : x ∈ hops7.filter f := by rw [e]; exact List.mem_cons_self
  refine ⟨(List.mem_filter.1 hx).2, fun j hj => ?_⟩
  have hj' : j ∈ hops7.filter f := List.mem_filter.2 ⟨mem7.2 (h.1 j hj), hj⟩
  rw [e] at hj';rcases List.mem_cons.1 hj' with rfl | hj'
  ·exact Int.le_refl _
  have := (List.pairwise_cons.1 hp).1 j hj'
  show x ≤ j
  omega
def pick (f : Int → Bool) (h : Int) : Int := if f h then h else fstW f
theorem pick_in {f : Int → Bool} (h : Wish f) (k : Int) : f (pick f k) = true := by
 unfold pick
 by_cases e : f k = true
 ·rw [if_pos e]; exact e
 rw [if_neg e]; exact (fstW_in h).1
def made (f : Int → Bool) (p : Pf) (h : Int) : List Rt := if f h then [] else [⟨p, fstW f⟩]
def least : Nat → Pf → List Int → Int → List Rt
 | 0, p, hs, h => made (wsh 0 hs) p h
 | d + 1, p, hs, h => made (wsh (d + 1) hs) p h ++ if alike hs then [] else least d (child p 0) (lowH hs) (pick (wsh (d + 1) hs) h) ++ least d (child p 1) (highH hs) (pick (wsh (d + 1) hs) h)
def no (f : Int → Bool) (h : Int) : Nat := if f h then 0 else 1
theorem made_len (f : Int → Bool) (p : Pf) (h : Int) : (made f p h).length = no f h := by
 unfold made no
 split <;> rfl
theorem no_mix {a b : Int → Bool} (ha : Wish a) (_ : Wish b) (h : Int) : no a h + no b h = (if both a b then 0 else 1) + no (mix a b) h ∨ (if both a b then 0 else 1) + 1 ≤ no a h + no b h := by
 by_cases e : both a b = true
 ·have hm : mix a b h = (a h && b h) := by unfold mix; rw [if_pos e]
  unfold no;rw [if_pos e, hm]
  cases a h <;> cases b h <;> simp
 have hm : mix a b h = (a h || b h) := by unfold mix; rw [if_neg e]
 have hn : ¬ (a h = true ∧ b h = true) := fun k => e (both_iff.2 ⟨h, ha.1 h k.1, k⟩)
 unfold no
 rw [if_neg e, hm]
 cases h1 : a h <;> cases h2 : b h <;> simp [h1, h2] at hn ⊢
theorem no_pick {a b : Int → Bool} (ha : Wish a) (hb : Wish b) (h : Int) : no a (pick (mix a b) h) + no b (pick (mix a b) h) = if both a b then 0 else 1 := by
 have hp := pick_in (ha.mix hb) h
 generalize pick (mix a b) h = k at *
 by_cases e : both a b = true
 ·have hm : mix a b k = (a k && b k) := by unfold mix; rw [if_pos e]
  rw [hm, Bool.and_eq_true] at hp;unfold no
  rw [if_pos e, hp.1, hp.2];rfl
 have hm : mix a b k = (a k || b k) := by unfold mix; rw [if_neg e]
 have hn : ¬ (a k = true ∧ b k = true) := fun q => e (both_iff.2 ⟨k, ha.1 k q.1, q⟩)
 rw [hm] at hp
 unfold no
 rw [if_neg e]
 cases h1 : a k <;> cases h2 : b k <;> simp [h1, h2] at hn hp ⊢
theorem least_len : ∀ (d : Nat) (p : Pf) (hs : List Int) (h : Int), Fit d p hs → HopsOK hs → (least d p hs h).length = mn d hs + no (wsh d hs) h
 | 0, p, hs, h, _, _ => by
  show (made _ p h).length = 0 + _
  rw [made_len, Nat.zero_add]
 | d + 1, p, hs, h, hf, hh => by
  unfold least;rw [List.length_append, made_len]
  by_cases ha : alike hs
  ·rw [if_pos ha, (wsh_alike (d + 1) p hs hf hh ha).2];simp
  rw [if_neg ha, List.length_append, least_len d _ _ _ hf.low hh.low, least_len d _ _ _ hf.high hh.high];have := no_pick (wsh_wish d _ _ hf.low hh.low) (wsh_wish d _ _ hf.high hh.high) h
  show _ = mn d (lowH hs) + mn d (highH hs) + _ + _
  rw [← this];show _ + (_ + no _ (pick (mix _ _) h) + (_ + no _ (pick (mix _ _) h))) = _
  omega
def Inside (q p : Pf) : Prop := Tb.ok q ∧ fst p ≤ fst q ∧ lst q ≤ lst p ∧ p.len ≤ q.len
theorem Inside.self {p : Pf} (h : Tb.ok p) : Inside p p := ⟨h, Int.le_refl _, Int.le_refl _, Int.le_refl _⟩
theorem Inside.trans {a b c : Pf} (h : Inside a b) (k : Inside b c) : Inside a c := by
 obtain ⟨h1, h2, h3, h4⟩ := h
 obtain ⟨_, k2, k3, k4⟩ := k
 exact ⟨h1, by omega, by omega, by omega⟩
theorem inside_child {p : Pf} (h : Tb.ok p) (hl : p.len < 8) : Inside (child p 0) p ∧ Inside (child p 1) p ∧ lst (child p 0) < fst (child p 1) := by
 have c0 := ok_child h hl (b := 0) (by omega) (by omega)
 have c1 := ok_child h hl (b := 1) (by omega) (by omega)
 have s0 := span_child h hl 0
 have s1 := span_child h hl 1
 have f := fst_child h hl
 have l := lst_fst h
 have l0 := lst_fst c0
 have l1 := lst_fst c1
 have p0 := span_pos c0
 have hc : (child p 0).len = p.len + 1 ∧ (child p 1).len = p.len + 1 := ⟨rfl, rfl⟩
 exact ⟨⟨c0, by omega, by omega, by omega⟩, ⟨c1, by omega, by omega, by omega⟩, by omega⟩
theorem inside_split {p q : Pf} (h : Tb.ok p) (hl : p.len < 8) (hq : Inside q p) : q = p ∨ Inside q (child p 0) ∨ Inside q (child p 1) := by
 obtain ⟨h1, h2, h3, h4⟩ := hq
 have c0 := ok_child h hl (b := 0) (by omega) (by omega)
 have c1 := ok_child h hl (b := 1) (by omega) (by omega)
 have s0 := span_child h hl 0
 have s1 := span_child h hl 1
 have hc : (child p 0).len = p.len + 1 ∧ (child p 1).len = p.len + 1 ∧ (child p 0).bits = p.bits * 2 + 0 ∧ (child p 1).bits = p.bits * 2 + 1 := ⟨rfl, rfl, rfl, rfl⟩
 by_cases e : q.len = p.len
 ·left
  refine pf_eq e ?_
  rw [fst_ok h, fst_ok h1] at h2;rw [lst_ok h, lst_ok h1] at h3
  have e3 : span q = span p := by unfold span; rw [e]
  rw [e3] at h2 h3;rcases ok_cases h with k | k | k | k | k | k | k | k | k <;> (obtain ⟨_, e, _⟩ := k; rw [e] at h2 h3; omega)
 right
 unfold Inside
 rw [fst_ok c0, lst_ok c0, fst_ok c1, lst_ok c1, fst_ok h1, lst_ok h1, hc.1, hc.2.1, hc.2.2.1, hc.2.2.2]
 rw [fst_ok h, fst_ok h1] at h2
 rw [lst_ok h, lst_ok h1] at h3
 have es : span (child p 0) = span (child p 1) := by omega
 rw [es]
 generalize span (child p 1) = S at *
 generalize span (child p 0) = S0 at *
 clear c0 c1 hc
 have hS : S = span p / 2 := by omega
 clear s0 es s1
 by_cases hh : q.bits * span q < (p.bits * 2 + 1) * S
 ·left
  rcases ok_cases h with k | k | k | k | k | k | k | k | k <;> (obtain ⟨l1, e1, _⟩ := k; first | (exfalso; omega) | (rw [e1] at h2 h3 hS; simp only [Int.reduceDiv] at hS; subst hS; rcases ok_cases h1 with k | k | k | k | k | k | k | k | k <;> (obtain ⟨l2, e2, _⟩ := k; first | (exfalso; omega) | (rw [e2] at h2 h3 hh ⊢; exact ⟨h1, by omega, by omega, by omega⟩))))
 right
 rcases ok_cases h with k | k | k | k | k | k | k | k | k <;> (obtain ⟨l1, e1, _⟩ := k; first | (exfalso; omega) | (rw [e1] at h2 h3 hS; simp only [Int.reduceDiv] at hS; subst hS; rcases ok_cases h1 with k | k | k | k | k | k | k | k | k <;> (obtain ⟨l2, e2, _⟩ := k; first | (exfalso; omega) | (rw [e2] at h2 h3 hh ⊢; exact ⟨h1, by omega, by omega, by omega⟩))))
theorem made_mem {f : Int → Bool} {p : Pf} {h : Int} {r : Rt} (hr : r ∈ made f p h) : r = ⟨p, fstW f⟩ := by
 unfold made at hr
 split at hr
 ·cases hr
 simpa using hr
theorem least_in : ∀ (d : Nat) (p : Pf) (hs : List Int) (h : Int), Fit d p hs → HopsOK hs → ∀ r ∈ least d p hs h, Inside r.p p ∧ hopOK r.hop
 | 0, p, hs, h, hf, hh, r, hr => by
  rw [made_mem (show r ∈ made _ p h from hr)];have hw := wsh_wish 0 p hs hf hh
  exact ⟨Inside.self hf.1, hw.1 _ (fstW_in hw).1⟩
 | d + 1, p, hs, h, hf, hh, r, hr => by
  unfold least at hr;rcases List.mem_append.1 hr with hr | hr
  ·rw [made_mem hr];have hw := wsh_wish (d + 1) p hs hf hh
   exact ⟨Inside.self hf.1, hw.1 _ (fstW_in hw).1⟩
  split at hr
  ·cases hr
  obtain ⟨i0, i1, _⟩ := inside_child hf.1 hf.lt
  rcases List.mem_append.1 hr with hr | hr
  ·obtain ⟨a, b⟩ := least_in d _ _ _ hf.low hh.low r hr
   exact ⟨a.trans i0, b⟩
  obtain ⟨a, b⟩ := least_in d _ _ _ hf.high hh.high r hr
  exact ⟨a.trans i1, b⟩
theorem inside_less {p q : Pf} (_ : Tb.ok p) (hl : p.len < 8) (hq : Inside q (child p 0) ∨ Inside q (child p 1)) (h0 : Tb.ok p) : less p q := by
 obtain ⟨i0, i1, _⟩ := inside_child h0 hl
 unfold less
 rcases hq with hq | hq
 ·have := hq.2.1; have := hq.2.2.2; have := i0.2.1; have := i0.2.2.2
  have : (child p 0).len = p.len + 1 := rfl
  omega
 have := hq.2.1; have := hq.2.2.2; have := i1.2.1; have := i1.2.2.2
 have : (child p 1).len = p.len + 1 := rfl
 omega
theorem sides_less {p q r : Pf} (h : Tb.ok p) (hl : p.len < 8) (hq : Inside q (child p 0)) (hr : Inside r (child p 1)) : less q r := by
 obtain ⟨_, _, h3⟩ := inside_child h hl
 have := hq.2.2.1; have := hr.2.1; have := (fst_le hq.1).1
 exact .inl (by omega)
theorem least_pair : ∀ (d : Nat) (p : Pf) (hs : List Int) (h : Int), Fit d p hs → HopsOK hs → (least d p hs h).Pairwise (fun r s => less r.p s.p)
 | 0, p, hs, h, hf, hh => by
  show (made _ p h).Pairwise _
  unfold made;split
  ·exact List.Pairwise.nil
  simp
 | d + 1, p, hs, h, hf, hh => by
  unfold least
  have hm : (made (wsh (d + 1) hs) p h).Pairwise (fun r s => less r.p s.p) := by
   unfold made;split
   ·exact List.Pairwise.nil
   simp
  by_cases ha : alike hs
  ·rw [if_pos ha, List.append_nil];exact hm
  rw [if_neg ha];rw [List.pairwise_append, List.pairwise_append]
  refine ⟨hm, ⟨least_pair d _ _ _ hf.low hh.low, least_pair d _ _ _ hf.high hh.high, ?_⟩, ?_⟩
  ·intro a ha' b hb;exact sides_less hf.1 hf.lt (least_in d _ _ _ hf.low hh.low a ha').1 (least_in d _ _ _ hf.high hh.high b hb).1
  intro a ha' b hb;rw [made_mem ha']
  rcases List.mem_append.1 hb with hb | hb
  ·exact inside_less hf.1 hf.lt (.inl (least_in d _ _ _ hf.low hh.low b hb).1) hf.1
  exact inside_less hf.1 hf.lt (.inr (least_in d _ _ _ hf.high hh.high b hb).1) hf.1
theorem least_wf {hs : List Int} (hf : Fit 8 ⟨0, 0⟩ hs) (hh : HopsOK hs) (h : Int) : Wf (least 8 ⟨0, 0⟩ hs h) :=
 ⟨fun r hr => ⟨(least_in 8 _ _ h hf hh r hr).1.1, (least_in 8 _ _ h hf hh r hr).2⟩, least_pair 8 _ _ h hf hh⟩
theorem inside_has {q p : Pf} {a : Int} (h : Inside q p) (ha : has q a) (hp : Tb.ok p) : has p a := ⟨hp, by have := h.2.1; have := ha.2; omega, by have := h.2.2.1; have := ha.2; omega⟩
theorem half_has {p : Pf} {a : Int} (h : has p a) (hl : p.len < 8) : (has (child p 0) a ∧ ¬ has (child p 1) a) ∨ (has (child p 1) a ∧ ¬ has (child p 0) a) := by
 have hp := h.1
 have c0 := ok_child hp hl (b := 0) (by omega) (by omega)
 have c1 := ok_child hp hl (b := 1) (by omega) (by omega)
 have s0 := span_child hp hl 0
 have s1 := span_child hp hl 1
 have f := fst_child hp hl
 have l := lst_fst hp
 have l0 := lst_fst c0
 have l1 := lst_fst c1
 have h2 := h.2
 by_cases c : a < fst (child p 1)
 ·exact .inl ⟨⟨c0, by omega, by omega⟩, fun k => by have := k.2; omega⟩
 exact .inr ⟨⟨c1, by omega, by omega⟩, fun k => by have := k.2; omega⟩
theorem Fit.get_low {d : Nat} {p : Pf} {hs : List Int} (hf : Fit (d + 1) p hs) {a : Int} (ha : has (child p 0) a) : (lowH hs).getD (a - fst (child p 0)).toNat 0 = hs.getD (a - fst p).toNat 0 := by
 obtain ⟨h1, h2, h3⟩ := hf.half
 have f := fst_child hf.1 hf.lt
 have l0 := lst_fst ha.1
 have h4 := ha.2
 rw [f.1]
 exact lowH_get (by omega)
theorem Fit.get_high {d : Nat} {p : Pf} {hs : List Int} (hf : Fit (d + 1) p hs) {a : Int} (ha : has (child p 1) a) : (highH hs).getD (a - fst (child p 1)).toNat 0 = hs.getD (a - fst p).toNat 0 := by
 obtain ⟨h1, h2, h3⟩ := hf.half
 have f := fst_child hf.1 hf.lt
 have l0 := lst_fst ha.1
 have h4 := ha.2
 rw [highH_get, f.2]
 congr 1
 omega
theorem Fit.at_lt {d : Nat} {p : Pf} {hs : List Int} (hf : Fit d p hs) {a : Int} (ha : has p a) : (a - fst p).toNat < hs.length := by
 have := hf.2.2
 have := lst_fst ha.1
 have := ha.2
 omega
theorem fold_made {f : Int → Bool} {p : Pf} {h a : Int} (ha : has p a) : (made f p h).foldl (lookF a) h = pick f h := by
 unfold made pick
 split
 ·rfl
 show lookF a h ⟨p, fstW f⟩ = _
 unfold lookF
 rw [if_pos ha]
theorem least_fold : ∀ (d : Nat) (p : Pf) (hs : List Int) (h : Int), Fit d p hs → HopsOK hs → ∀ a, has p a → (least d p hs h).foldl (lookF a) h = hs.getD (a - fst p).toNat 0
 | 0, p, hs, h, hf, hh, a, ha => by
  show (made (wsh 0 hs) p h).foldl (lookF a) h = _
  rw [fold_made ha];have e := pick_in (wsh_wish 0 p hs hf hh) h
  have e : pick (wsh 0 hs) h = hs.getD 0 0 := by simpa [wsh] using e
  rw [e]
  have h1 : (hs.length : Int) = 1 := by
   rw [hf.2.2];have := hf.2.1
   unfold span;rw [show (8 - p.len).toNat = 0 from by omega]
   rfl
  have := hf.at_lt ha
  rw [show (a - fst p).toNat = 0 from by omega]
 | d + 1, p, hs, h, hf, hh, a, ha => by
  unfold least;rw [List.foldl_append, fold_made ha]
  by_cases hal : alike hs
  ·rw [if_pos hal];have e := pick_in (wsh_wish (d + 1) p hs hf hh) h
   rw [(wsh_alike (d + 1) p hs hf hh hal).1] at e ⊢
   have e : pick (fun h => h == hs.getD 0 0) h = hs.getD 0 0 := beq_iff_eq.1 e
   show pick _ h = _
   rw [e];exact (hal _ (hf.at_lt ha)).symm
  rw [if_neg hal, List.foldl_append];generalize pick (wsh (d + 1) hs) h = k
  rcases half_has ha hf.lt with ⟨h1, h2⟩ | ⟨h1, h2⟩
  ·rw [least_fold d _ _ k hf.low hh.low a h1, hf.get_low h1];exact look_keep _ _ (fun r hr hra => h2 (inside_has (least_in d _ _ _ hf.high hh.high r hr).1 hra hf.high.1))
  rw [look_keep _ _ (fun r hr hra => h2 (inside_has (least_in d _ _ _ hf.low hh.low r hr).1 hra hf.low.1)), least_fold d _ _ k hf.high hh.high a h1, hf.get_high h1]
theorem part_split {p : Pf} (hp : Tb.ok p) (hl : p.len < 8) : ∀ L : List Rt, (∀ r ∈ L, Inside r.p p) → L.Pairwise (fun r s => less r.p s.p) →
  ∃ M A B, L = M ++ (A ++ B) ∧ (M = [] ∨ ∃ h, M = [⟨p, h⟩]) ∧ (∀ r ∈ A, Inside r.p (child p 0)) ∧ (∀ r ∈ B, Inside r.p (child p 1))
 | [], _, _ => ⟨[], [], [], rfl, .inl rfl, fun r hr => (by cases hr), fun r hr => (by cases hr)⟩
 | r :: L, hi, hpw => by
  obtain ⟨k1, k2⟩ := List.pairwise_cons.1 hpw
  obtain ⟨M, A, B, e, hM, hA, hB⟩ := part_split hp hl L (fun s hs => hi s (List.mem_cons_of_mem _ hs)) k2
  have hr := hi r (List.mem_cons_self ..)
  have hM0 : M = [] := by
   rcases hM with h | ⟨h, h'⟩
   ·exact h
   exfalso
   have hm : (⟨p, h⟩ : Rt) ∈ L := by rw [e, h']; simp
   have hl2 := k1 _ hm
   unfold less at hl2;have := hr.2.1
   have := hr.2.2.2
   dsimp only at hl2;omega
  subst hM0;rw [List.nil_append] at e
  rcases inside_split hp hl hr with h | h | h
  ·refine ⟨[r], A, B, by rw [e]; rfl, .inr ⟨r.hop, ?_⟩, hA, hB⟩
   cases r;cases h
   rfl
  ·refine ⟨[], r :: A, B, by rw [e]; rfl, .inl rfl, fun s hs => ?_, hB⟩
   rcases List.mem_cons.1 hs with rfl | hs
   ·exact h
   exact hA s hs
  have hA0 : A = [] := by
   cases A with
   | nil => rfl
   | cons s A =>
    exfalso
    have h1 := k1 s (by rw [e]; simp)
    exact less_asymm h1 (sides_less hp hl (hA s (List.mem_cons_self ..)) h)
  subst hA0;refine ⟨[], [], r :: B, by rw [e]; rfl, .inl rfl, fun s hs => (by cases hs), fun s hs => ?_⟩
  rcases List.mem_cons.1 hs with rfl | hs
  ·exact h
  exact hB s hs
theorem no_le (f : Int → Bool) (h : Int) : no f h ≤ 1 := by unfold no; split <;> omega
theorem least_few : ∀ (d : Nat) (p : Pf) (hs : List Int) (h : Int) (L : List Rt), Fit d p hs → HopsOK hs → (∀ r ∈ L, Inside r.p p) → L.Pairwise (fun r s => less r.p s.p) →
  (∀ a, has p a → L.foldl (lookF a) h = hs.getD (a - fst p).toNat 0) → mn d hs + no (wsh d hs) h ≤ L.length
 | 0, p, hs, h, L, hf, hh, hi, hpw, hg => by
  show 0 + _ ≤ _
  cases L with
  | nil =>
   have e := hg (fst p) (has_first hf.1)
   rw [Int.sub_self] at e;have e : h = hs.getD 0 0 := e
   have : wsh 0 hs h = true := by simp only [wsh]; rw [e]; simp
   unfold no;rw [if_pos this]
   simp
  | cons r L =>
   have := no_le (wsh 0 hs) h
   rw [List.length_cons];omega
 | d + 1, p, hs, h, L, hf, hh, hi, hpw, hg => by
  obtain ⟨M, A, B, rfl, hM, hA, hB⟩ := part_split hf.1 hf.lt L hi hpw
  obtain ⟨_, p2, _⟩ := List.pairwise_append.1 hpw
  obtain ⟨pA, pB, _⟩ := List.pairwise_append.1 p2
  obtain ⟨i0, i1, _⟩ := inside_child hf.1 hf.lt
  obtain ⟨k, hk, hk2⟩ : ∃ k, (∀ a, has p a → M.foldl (lookF a) h = k) ∧ (M.length = 0 ∧ k = h ∨ M.length = 1) := by
   rcases hM with rfl | ⟨x, rfl⟩
   ·exact ⟨h, fun _ _ => rfl, .inl ⟨rfl, rfl⟩⟩
   refine ⟨x, fun a ha => ?_, .inr rfl⟩
   show lookF a h ⟨p, x⟩ = x
   unfold lookF;rw [if_pos ha]
  have gA : mn d (lowH hs) + no (wsh d (lowH hs)) k ≤ A.length := least_few d _ _ k A hf.low hh.low hA pA (fun a ha => by
   have hpa := inside_has i0 ha hf.1
   have h1 := hg a hpa
   rw [List.foldl_append, List.foldl_append, hk a hpa] at h1;rw [hf.get_low ha, ← h1]
   refine (look_keep B _ (fun r hr hra => ?_)).symm
   rcases half_has hpa hf.lt with ⟨_, q⟩ | ⟨_, q⟩
   ·exact q (inside_has (hB r hr) hra hf.high.1)
   exact q ha)
  have gB : mn d (highH hs) + no (wsh d (highH hs)) k ≤ B.length := least_few d _ _ k B hf.high hh.high hB pB (fun a ha => by
   have hpa := inside_has i1 ha hf.1
   have h1 := hg a hpa
   rw [List.foldl_append, List.foldl_append, hk a hpa] at h1;rw [hf.get_high ha, ← h1]
   rw [look_keep A _ (fun r hr hra => ?_)];rcases half_has hpa hf.lt with ⟨_, q⟩ | ⟨_, q⟩
   ·exact q ha
   exact q (inside_has (hA r hr) hra hf.low.1))
  have hn := no_mix (wsh_wish d _ _ hf.low hh.low) (wsh_wish d _ _ hf.high hh.high) k
  have n1 := no_le (wsh (d + 1) hs) h
  have n2 := no_le (wsh (d + 1) hs) k
  rw [List.length_append, List.length_append];show mn d (lowH hs) + mn d (highH hs) + (if both (wsh d (lowH hs)) (wsh d (highH hs)) then 0 else 1) + _ ≤ _
  have e : mix (wsh d (lowH hs)) (wsh d (highH hs)) = wsh (d + 1) hs := rfl
  rw [e] at hn;generalize (if both (wsh d (lowH hs)) (wsh d (highH hs)) then 0 else 1) = x at *
  rcases hk2 with ⟨q1, rfl⟩ | q1
  ·omega
  omega
theorem allOf_hops {L : List Rt} (hw : Wf L) : HopsOK (allOf L) := fun k hk => by
 rw [allOf_len] at hk
 unfold allOf
 rw [List.getD_eq_getElem?_getD, List.getElem?_map, List.getElem?_range hk]
 exact look_hopOK hw _
theorem fit_allOf (L : List Rt) : Fit 8 ⟨0, 0⟩ (allOf L) := ⟨by decide, by decide, by rw [allOf_len]; decide⟩
theorem allOf_at (L : List Rt) {n : Nat} (h : n < 256) : (allOf L).getD n 0 = look L n := by
 unfold allOf
 rw [List.getD_eq_getElem?_getD, List.getElem?_map, List.getElem?_range h]
 rfl
def few (L : List Rt) : List Rt := least 8 ⟨0, 0⟩ (allOf L) (-1)
theorem few_wf {L : List Rt} (hw : Wf L) : Wf (few L) := least_wf (fit_allOf L) (allOf_hops hw) _
theorem has_all {n : Nat} (h : n < 256) : has ⟨0, 0⟩ (n : Int) := by
 refine ⟨by decide, ?_, ?_⟩
 ·rw [fst00']; omega
 have := lst00'; omega
theorem few_all {L : List Rt} (hw : Wf L) : allOf (few L) = allOf L := by
 refine allOf_ext (fun n hn => ?_)
 have h := least_fold 8 _ _ (-1) (fit_allOf L) (allOf_hops hw) n (has_all hn)
 rw [fst00', Int.sub_zero, Int.toNat_natCast, allOf_at L hn] at h
 exact h
theorem few_len {L : List Rt} (hw : Wf L) : (few L).length = mn 8 (allOf L) + no (wsh 8 (allOf L)) (-1) := least_len 8 _ _ _ (fit_allOf L) (allOf_hops hw)
theorem inside_all {p : Pf} (h : Tb.ok p) : Inside p ⟨0, 0⟩ := by
 have := fst_ge h
 have := fst_le h
 have := lst00'
 refine ⟨h, by rw [fst00']; omega, by omega, h.1⟩
theorem few_fewest {L M : List Rt} (hw : Wf L) (hm : Wf M) (h : allOf M = allOf L) : (few L).length ≤ M.length := by
 rw [few_len hw]
 refine least_few 8 ⟨0, 0⟩ (allOf L) (-1) M (fit_allOf L) (allOf_hops hw) (fun r hr => inside_all (hm.1 r hr).1) hm.2 (fun a ha => ?_)
 have hr := has_range ha
 obtain ⟨n, rfl⟩ := Int.eq_ofNat_of_zero_le hr.1
 have hn : n < 256 := by omega
 rw [fst00', Int.sub_zero, Int.toNat_natCast, ← h, allOf_at M hn]
 rfl
theorem mn_lv : ∀ (d : Nat) (p : Pf) (hs : List Int), Fit d p hs → HopsOK hs → mn d hs + 1 ≤ (lv d p hs).length
 | 0, p, hs, _, _ => by simp [mn, lv]
 | d + 1, p, hs, hf, hh => by
  unfold lv;by_cases ha : alike hs
  ·rw [if_pos ha, (wsh_alike (d + 1) p hs hf hh ha).2];simp
  rw [if_neg ha, List.length_append];have h0 := mn_lv d _ _ hf.low hh.low
  have h1 := mn_lv d _ _ hf.high hh.high
  show mn d (lowH hs) + mn d (highH hs) + _ + 1 ≤ _
  split <;> omega
structure Ch where
 p : Pf
 old : Int
 new : Int
instance : DecidableEq Ch := fun a b => decidable_of_iff (a.p = b.p ∧ a.old = b.old ∧ a.new = b.new) ⟨fun h => by cases a; cases b; simp_all, fun h => by rw [h]; exact ⟨rfl, rfl, rfl⟩⟩
instance : Inhabited Ch := ⟨⟨⟨0, 0⟩, 0, 0⟩⟩
theorem look_fold_out {a : Int} : ∀ (L : List Rt) (h : Int), (∀ r ∈ L, ¬ has r.p a) → L.foldl (lookF a) h = h
 | [], _, _ => rfl
 | r :: T, h, hh => by
  rw [List.foldl_cons];have : lookF a h r = h := by unfold lookF; rw [if_neg (hh r (List.mem_cons_self ..))]
  rw [this];exact look_fold_out T h (fun s hs => hh s (List.mem_cons_of_mem _ hs))
theorem look_out {L : List Rt} {a : Int} (h : ¬ (0 ≤ a ∧ a < 256)) : look L a = -1 := look_fold_out L _ (fun _ _ k => h (has_range k))
theorem look_of_all {L M : List Rt} (h : allOf L = allOf M) (a : Int) : look L a = look M a := by
 by_cases k : 0 ≤ a ∧ a < 256
 ·obtain ⟨n, rfl⟩ : ∃ n : Nat, a = n := ⟨a.toNat, by omega⟩
  have hn : n < 256 := by omega
  rw [← allOf_at _ hn, ← allOf_at _ hn, h]
 rw [look_out k, look_out k]
theorem few_look {L : List Rt} (hw : Wf L) (a : Int) : look L a = look (few L) a := look_of_all (few_all hw).symm a
end Go.Proofs.YtffoilacaffdgaaGreatDoor.Tb
namespace Go.Proofs.YtffoilacaffdgaaGreatDoor.Fb
structure PT where
 t : Nt.NT
 o : List Tb.Rt
def begunP : PT := ⟨Nt.begun, []⟩
def ownH (a n : Int) : Int := if n = 0 then -2 else a
def ownT (o : List Tb.Rt) (a n pl pb : Int) : List Tb.Rt × Int := if Nt.isN a then (Tb.setL o ⟨pl, pb⟩ (ownH a n), Tb.setC o ⟨pl, pb⟩ (ownH a n)) else (o, 1)
def doP (s : PT) (k a b n pl pb : Int) : PT × Int :=
 if k = 7 then (⟨s.t, (ownT s.o a n pl pb).1⟩, (ownT s.o a n pl pb).2) else (⟨(Nt.doT s.t k a b n).1, s.o⟩, (Nt.doT s.t k a b n).2)
structure OOk (o : List Tb.Rt) : Prop where
 wf : Tb.Wf o
 len : o.length ≤ 40
 hop : ∀ r ∈ o, Nt.isN r.hop
theorem OOk.nil : OOk [] := ⟨Tb.Wf.nil, by simp, fun _ h => by cases h⟩
theorem OOk.set {o : List Tb.Rt} (h : OOk o) (p : Tb.Pf) {hop : Int} (hh : hop = -2 ∨ Nt.isN hop) : OOk (Tb.setL o p hop) := by
 have h1 := Tb.setL_ok h.wf h.len p hop
 refine ⟨h1.1, h1.2, fun r hr => ?_⟩
 unfold Tb.setL at hr
 split at hr
 ·unfold Tb.setOk at hr;rcases List.mem_append.1 hr with hr | hr
  ·rcases List.mem_append.1 hr with hr | hr
   ·exact h.hop r (Tb.lo_mem hr).1
   obtain ⟨e, hne⟩ := Tb.mid_mem hr
   rw [e];rcases hh with hh | hh
   ·exact absurd hh hne
   exact hh
  exact h.hop r (Tb.hi_mem hr).1
 exact h.hop r hr
theorem ownH_ok {a n : Int} (h : Nt.isN a) : ownH a n = -2 ∨ Nt.isN (ownH a n) := by
 unfold ownH
 split
 ·exact .inl rfl
 exact .inr h
theorem OOk.own {o : List Tb.Rt} (h : OOk o) (a n pl pb : Int) : OOk (ownT o a n pl pb).1 := by
 unfold ownT
 split
 ·exact h.set _ (ownH_ok (by assumption))
 exact h
structure POk (s : PT) (n : Nat) : Prop where
 str : Nt.Str s.t n
 o : OOk s.o
theorem POk.begun : POk begunP 0 := ⟨Nt.Str.begun, OOk.nil⟩
theorem POk.doP {s : PT} {n : Nat} (h : POk s n) (k a b c pl pb : Int) : POk (Fb.doP s k a b c pl pb).1 (n + 1) := by
 unfold Fb.doP
 split
 ·exact ⟨h.str.mono (Nat.le_succ n), h.o.own _ _ _ _⟩
 exact ⟨h.str.doT k a b c, h.o⟩
theorem doP_own (s : PT) (a b n pl pb : Int) : doP s 7 a b n pl pb = (⟨s.t, (ownT s.o a n pl pb).1⟩, (ownT s.o a n pl pb).2) := by unfold doP; rw [if_pos rfl]
theorem doP_net (s : PT) {k : Int} (h : k ≠ 7) (a b n pl pb : Int) : doP s k a b n pl pb = (⟨(Nt.doT s.t k a b n).1, s.o⟩, (Nt.doT s.t k a b n).2) := by unfold doP; rw [if_neg h]
theorem ownT_no (o : List Tb.Rt) {a : Int} (h : ¬ Nt.isN a) (n pl pb : Int) : ownT o a n pl pb = (o, 1) := by unfold ownT; rw [if_neg h]
theorem ownT_yes (o : List Tb.Rt) {a : Int} (h : Nt.isN a) (n pl pb : Int) : ownT o a n pl pb = (Tb.setL o ⟨pl, pb⟩ (ownH a n), Tb.setC o ⟨pl, pb⟩ (ownH a n)) := by unfold ownT; rw [if_pos h]
theorem set_snoc {L : List Tb.Rt} {r : Tb.Rt} (h : Tb.Wf (L ++ [r])) (hl : L.length < 40) : Tb.setC L r.p r.hop = 0 ∧ Tb.setL L r.p r.hop = L ++ [r] := by
 have hr := h.1 r (by simp)
 have hless := (Tb.wf_app h).2
 have hne : ∀ s ∈ L, s.p ≠ r.p := fun s hs e => by
  have := hless s hs
  rw [e] at this;exact Tb.less_irrefl _ this
 have hg : Tb.get L r.p = -2 := Tb.get_none hne
 have h2 : r.hop ≠ -2 := by have := hr.2; unfold Tb.hopOK at this; omega
 have hc : Tb.setC L r.p r.hop = 0 := by
  unfold Tb.setC;rw [if_neg (by rintro (h1 | h1); exact h1 hr.1; exact h1.2 hr.2), if_neg (fun e => h2 e.2), if_neg (fun e => by omega)]
 refine ⟨hc, ?_⟩
 unfold Tb.setL
 rw [if_pos hc]
 unfold Tb.setOk Tb.mid
 rw [if_neg h2]
 have h3 : Tb.lo L r.p = L := List.filter_eq_self.2 (fun s hs => by simpa using hless s hs)
 have h4 : Tb.hi L r.p = [] := List.filter_eq_nil_iff.2 (fun s hs => by simpa using Tb.less_asymm (hless s hs))
 rw [h3, h4, List.append_nil]
def fullR (t : Nt.NT) (n : Nat) (r : Tb.Rt) : Tb.Rt := ⟨r.p, hopT t r.hop n⟩
def full (t : Nt.NT) (o : List Tb.Rt) (n : Nat) : List Tb.Rt := o.map (fullR t n)
theorem full_len (t : Nt.NT) (o : List Tb.Rt) (n : Nat) : (full t o n).length = o.length := by simp [full]
theorem full_take (t : Nt.NT) (o : List Tb.Rt) (n k : Nat) (hk : k < o.length) : full t (o.take (k + 1)) n = full t (o.take k) n ++ [fullR t n (Tb.nth o k)] := by
 unfold full; rw [Tb.take_succ hk, List.map_append]; rfl
theorem hop_any {t : Nt.NT} {m dst p : Nat} (h : Nt.Str t m) (hd : dst < 6) (hp : p < 6) (hne : p ≠ dst) : hopT t dst p = -1 ∨ ∃ f : Nat, f < 6 ∧ hopT t dst p = f ∧ 0 < t.C p f ∧ Nt.Bet t dst p f := by
 by_cases hN : Nt.isN (hopT t dst p)
 ·exact .inr (Nt.hop_step h hd hp hne hN)
 refine .inl (Classical.byContradiction fun e => hN ?_)
 have e1 : hopT t dst p = (t.N p).wH dst := by
  unfold hopT;rw [Int.toNat_natCast, Nd.wayAt, if_pos ⟨by omega, by omega⟩, Int.toNat_natCast]
  rfl
 rw [e1] at e ⊢
 have hm : dst ≠ (t.N p).me := by rw [h.ok.me p hp]; exact fun e => hne e.symm
 obtain ⟨f, a1, a2, _⟩ := ((h.nice p hp).bst.way dst hd hm).via e
 exact ⟨by omega, by omega⟩
theorem hop_ok {t : Nt.NT} {m p : Nat} (h : Nt.Str t m) {d : Int} (hd : Nt.isN d) (hp : p < 6) : Tb.hopOK (hopT t d p) := by
 obtain ⟨d0, d1⟩ := hd
 obtain ⟨dst, rfl⟩ := Int.eq_ofNat_of_zero_le d0
 unfold Tb.hopOK
 by_cases hne : p = dst
 ·subst hne;rw [Nt.hop_self h (by omega)]; omega
 rcases hop_any h (by omega) hp hne with e | ⟨f, hf, e, _⟩
 ·rw [e]; omega
 rw [e]; omega
theorem full_wf {t : Nt.NT} {m n : Nat} (h : Nt.Str t m) (hn : n < 6) {o : List Tb.Rt} (ho : OOk o) : Tb.Wf (full t o n) := by
 refine ⟨fun r hr => ?_, ?_⟩
 ·obtain ⟨s, hs, rfl⟩ := List.mem_map.1 hr
  exact ⟨(ho.wf.1 s hs).1, hop_ok h (ho.hop s hs) hn⟩
 unfold full
 rw [List.pairwise_map]
 exact ho.wf.2
theorem OOk.take {o : List Tb.Rt} (h : OOk o) (k : Nat) : OOk (o.take k) :=
 ⟨⟨fun r hr => h.wf.1 r (List.mem_of_mem_take hr), h.wf.2.sublist (List.take_sublist _ _)⟩, by have := h.len; rw [List.length_take]; omega, fun r hr => h.hop r (List.mem_of_mem_take hr)⟩
theorem full_step {t : Nt.NT} {m n k : Nat} (h : Nt.Str t m) (hn : n < 6) {o : List Tb.Rt} (ho : OOk o) (hk : k < o.length) :
  Tb.setL (full t (o.take k) n) (Tb.nth o k).p (hopT t (Tb.nth o k).hop n) = full t (o.take (k + 1)) n ∧ Tb.setC (full t (o.take k) n) (Tb.nth o k).p (hopT t (Tb.nth o k).hop n) = 0 := by
 have hw := full_wf h hn (ho.take (k + 1))
 rw [full_take t o n k hk] at hw ⊢
 have hl := ho.len
 have := set_snoc hw (by rw [full_len, List.length_take]; omega)
 exact ⟨this.2, this.1⟩
def via (t : Nt.NT) (owner : Int) (n : Nat) : Int := if owner = -1 then -1 else hopT t owner n
theorem fold_map {a : Int} {t : Nt.NT} {n : Nat} : ∀ (L : List Tb.Rt) (h : Int), (∀ r ∈ L, Nt.isN r.hop) → (L.map (fullR t n)).foldl (Tb.lookF a) (via t h n) = via t (L.foldl (Tb.lookF a) h) n
 | [], _, _ => rfl
 | r :: L, h, hh => by
  have hr := hh r (by simp)
  rw [List.map_cons, List.foldl_cons, List.foldl_cons, ← fold_map L _ (fun s hs => hh s (List.mem_cons_of_mem _ hs))];congr 1
  unfold Tb.lookF;by_cases e : Tb.has r.p a
  ·rw [if_pos e];rw [if_pos (show Tb.has (fullR t n r).p a from e)]
   unfold via;rw [if_neg (by unfold Nt.isN at hr; omega)]
   rfl
  rw [if_neg e, if_neg (show ¬ Tb.has (fullR t n r).p a from e)]
theorem full_look {t : Nt.NT} {o : List Tb.Rt} (ho : OOk o) (n : Nat) (a : Int) : Tb.look (full t o n) a = via t (Tb.look o a) n := by
 have h := fold_map (a := a) (t := t) (n := n) o (-1) ho.hop
 rw [show via t (-1) n = -1 from if_pos rfl] at h
 exact h
def small (t : Nt.NT) (o : List Tb.Rt) (n : Nat) : List Tb.Rt := Tb.few (full t o n)
theorem small_ok {t : Nt.NT} {m n : Nat} (h : Nt.Str t m) (hn : n < 6) {o : List Tb.Rt} (ho : OOk o) : Tb.Wf (small t o n) ∧ (small t o n).length ≤ (full t o n).length ∧ (small t o n).length ≤ 40 ∧ Tb.allOf (small t o n) = Tb.allOf (full t o n) := by
 have hw := full_wf h hn ho
 have hf := Tb.few_fewest hw hw rfl
 have := ho.len
 rw [full_len] at hf
 exact ⟨Tb.few_wf hw, by rw [full_len]; exact hf, Nat.le_trans hf this, Tb.few_all hw⟩
theorem small_look {t : Nt.NT} {m n : Nat} (h : Nt.Str t m) (hn : n < 6) {o : List Tb.Rt} (ho : OOk o) (a : Int) : Tb.look (small t o n) a = via t (Tb.look o a) n := by
 rw [← full_look ho]
 exact (Tb.few_look (full_wf h hn ho) a).symm
end Go.Proofs.YtffoilacaffdgaaGreatDoor.Fb
namespace Go.Proofs.YtffoilacaffdgaaGreatDoor
open Go.RowKit Go.Deep
structure TwAt (w : World) (y : TIds) (u : Value) (a : Option Addr) (s : Fb.PT) : Prop where
 tn : TnAt w y u s.t
 own : ∃ c, y.own = .slice a s.o.length c
 rs : Rs w a s.o
 sep : ∀ p, a = some p → p.spot = none ∧ ¬ FtT y u p.block ∧ p.block < w.heap.size
def FtW (y : TIds) (u : Value) (a : Option Addr) (i : Nat) : Prop := FtT y u i ∨ ∃ p, a = some p ∧ p.block = i
theorem TwAt.c43 {w : World} {y : TIds} {u : Value} {a : Option Addr} {s : Fb.PT} (h : TwAt w y u a s) : w.cell? ⟨y.b, 43, none⟩ = some y.own := rC h.tn.row (i := 43) (by omega)
theorem TwAt.lt {w : World} {y : TIds} {u : Value} {a : Option Addr} {s : Fb.PT} (h : TwAt w y u a s) {i : Nat} (hi : FtW y u a i) : i < w.heap.size := by
 rcases hi with hi | ⟨p, hp, rfl⟩
 ·exact h.tn.lt hi
 exact (h.sep p hp).2.2
theorem TwAt.keep {S : Nat → Prop} {w w' : World} {y : TIds} {u : Value} {a : Option Addr} {s : Fb.PT} (h : TwAt w y u a s) (hf : Fr S w w') (hS : ∀ i, FtW y u a i → ¬ S i) : TwAt w' y u a s :=
 ⟨h.tn.keep hf (fun i hi => hS i (.inl hi)), h.own, h.rs.keep hf (fun p hp => hS _ (.inr ⟨p, hp, rfl⟩)), fun p hp => ⟨(h.sep p hp).1, (h.sep p hp).2.1, Nat.lt_of_lt_of_le (h.sep p hp).2.2 hf.size⟩⟩
theorem TwAt.keep0 {w w' : World} {y : TIds} {u : Value} {a : Option Addr} {s : Fb.PT} (h : TwAt w y u a s) (hf : Fr NoB w w') : TwAt w' y u a s := h.keep hf (fun _ _ h => h)
def TwDo (y : TIds) (u : Value) (a : Option Addr) (s : Fb.PT) (c : Int) (w : World) (e : Ending) (w' : World) : Prop :=
 ∃ (o' u' : Value) (a' : Option Addr), e = .returned (.int .i64 c) ∧ TwAt w' { y with own := o' } u' a' s ∧ Fr (FtT y u) w w' ∧ ∀ i, FtW { y with own := o' } u' a' i → FtW y u a i ∨ w.heap.size ≤ i
theorem TnAt.setOwn {w : World} {y : TIds} {u : Value} {t : Nt.NT} (h : TnAt w y u t) (o' : Value) : TnAt (w.setCell ⟨y.b, 43, none⟩ o') { y with own := o' } u t := by
 have hfs : Fr (OneB y.b) w (w.setCell ⟨y.b, 43, none⟩ o') := (Fr.refl _ _).set1 _ _
 refine ⟨(World.rowIs.set h.row 43 o').congr (fun i hi => ?_), fun k hk => (h.node k hk).keep hfs (fun e => h.bN hk e.symm), own_keep h.news hfs (fun g hg e => by cases e; exact h.bv hg), h.inj⟩
 unfold tnF
 by_cases e : i = 43
 ·subst e; simp
 rw [if_neg e]
 by_cases e0 : i < 36
 ·rw [if_pos e0, if_pos e0]
 rw [if_neg e0, if_neg e0]
 by_cases e1 : i < 42
 ·rw [if_pos e1, if_pos e1]
 rw [if_neg e1, if_neg e1, if_pos (by omega), if_pos (by omega)]
theorem TwDo.own {w w1 w4 : World} {y : TIds} {u : Value} {a a' : Option Addr} {s : Fb.PT} {o' : List Tb.Rt} {c' : Nat} {c : Int} (h : TwAt w y u a s) (h1 : Fr NoB w w1) (hf : Fr NoB w1 w4) (hr : Rs w4 a' o') (hq : ∀ q, a' = some q → q.spot = none ∧ (a = some q ∨ (w1.heap.size ≤ q.block ∧ q.block < w4.heap.size))) :
  TwDo y u a ⟨s.t, o'⟩ c w (.returned (.int .i64 c)) (w4.setCell ⟨y.b, 43, none⟩ (.slice a' o'.length c')) := by
 have h4 := h.keep0 (h1.trans hf)
 have hyb : FtT y u y.b := .inl rfl
 have hfs : Fr (OneB y.b) w4 (w4.setCell ⟨y.b, 43, none⟩ (.slice a' o'.length c')) := (Fr.refl _ _).set1 _ _
 have hz := h1.size
 have hnot : ∀ q, a' = some q → ¬ FtT y u q.block := fun q hq' e => by
  rcases (hq q hq').2 with k | ⟨k, _⟩
  ·exact (h.sep q k).2.1 e
  have := h.tn.lt e; omega
 refine ⟨.slice a' o'.length c', u, a', rfl, ⟨h4.tn.setOwn _, ⟨c', rfl⟩, hr.keep hfs (fun p hp e => hnot p hp (by rw [show p.block = y.b from e]; exact hyb)), fun p hp => ⟨(hq p hp).1, hnot p hp, ?_⟩⟩, ?_, ?_⟩
 ·refine Nat.lt_of_lt_of_le ?_ hfs.size
  rcases (hq p hp).2 with k | ⟨_, k⟩
  ·exact (h4.sep p k).2.2
  exact k
 ·exact ((h1.trans hf).mono (fun _ _ h => h.elim)).setCell (p := ⟨y.b, 43, none⟩) (.inl hyb) _
 rintro i (e | ⟨p, hp, rfl⟩)
 ·exact .inl (.inl e)
 rcases (hq p hp).2 with k | ⟨k, _⟩
 ·exact .inl (.inr ⟨p, k, rfl⟩)
 exact .inr (by omega)
theorem TwDo.net {w w' : World} {y : TIds} {u : Value} {a : Option Addr} {s : Fb.PT} {t' : Nt.NT} {c : Int} {e : Ending} (h : TwAt w y u a s) (hd : TnDo y u t' c w e w') : TwDo y u a ⟨t', s.o⟩ c w e w' := by
 obtain ⟨u', rfl, ha, hf, hg⟩ := hd
 refine ⟨y.own, u', a, rfl, ⟨ha, h.own, h.rs.keep hf (fun p hp => (h.sep p hp).2.1), fun p hp => ⟨(h.sep p hp).1, fun e => ?_, Nat.lt_of_lt_of_le (h.sep p hp).2.2 hf.size⟩⟩, hf, ?_⟩
 ·have h1 := (h.sep p hp).2
  rcases FtT.grow hg e with k | k
  ·exact h1.1 k
  omega
 rintro i (e | e)
 ·rcases FtT.grow (y := y) hg e with k | k
  ·exact .inl (.inl k)
  exact .inr k
 exact .inl (.inr e)
def TwSaid (y : TIds) (u : Value) (al : Option Addr) (s : Fb.PT) (k a b n pl pb : Int) (w : World) : Prop :=
 Calls Tryz.prog 59 #[.pointer (some ⟨y.b, 0, none⟩), step6 k a b n pl pb] w (TwDo y u al (Fb.doP s k a b n pl pb).1 (Fb.doP s k a b n pl pb).2 w)
theorem TwDo_no (y : TIds) (u : Value) (al : Option Addr) (s : Fb.PT) (a b n pl pb : Int) (w : World) (ha : ¬ Nt.isN a) (h : TwAt w y u al s) : TwSaid y u al s 7 a b n pl pb w := by
 unfold TwSaid
 rw [Fb.doP_own, Fb.ownT_no _ ha]
 unfold step6
 have H := zh h; clear h; have HA := zh ha; clear ha
 go_enter Tryz.func59, Tryz.ntmps59
 go_wp2_with fail
 refine (RNode_no _ _ HA.out).mono ?_; rintro e w' ⟨rfl, rfl⟩
 go_wp2
 go_ret
 exact TwDo.net H.out (TnDo.none (H.out.tn.keep0 ((Fr.refl _ _).alloc _)) ((Fr.refl _ _).alloc _))
theorem TwDo_own (y : TIds) (u : Value) (al : Option Addr) (s : Fb.PT) (a b n pl pb : Int) (w : World) (ha : Nt.isN a) (ho : Fb.OOk s.o) (h : TwAt w y u al s) : TwSaid y u al s 7 a b n pl pb w := by
 unfold TwSaid
 rw [Fb.doP_own, Fb.ownT_yes _ ha]
 unfold step6
 obtain ⟨a0, a1⟩ := ha
 obtain ⟨c, hc⟩ := h.own
 have hyb := h.tn.lt (.inl rfl)
 obtain ⟨R, hR⟩ : ∃ R, R = TwDo y u al ⟨s.t, Tb.setL s.o ⟨pl, pb⟩ (Fb.ownH a n)⟩ (Tb.setC s.o ⟨pl, pb⟩ (Fb.ownH a n)) w := ⟨_, rfl⟩
 show Calls Tryz.prog 59 _ w (TwDo y u al ⟨s.t, Tb.setL s.o ⟨pl, pb⟩ (Fb.ownH a n)⟩ (Tb.setC s.o ⟨pl, pb⟩ (Fb.ownH a n)) w)
 rw [← hR]
 have H := zh h; clear h; have HO := zh ho; clear ho; have HR := zh hR; clear hR
 go_enter Tryz.func59, Tryz.ntmps59
 go_upto_region 40 with fail
 refine wp_name fun w1 hw1 => ?_
 have d1 : w1.cell? ⟨w.heap.size, 1, none⟩ = some (.int .i64 a) := by rw [hw1]; simp
 have d3 : w1.cell? ⟨w.heap.size, 3, none⟩ = some (.int .i64 n) := by rw [hw1]; simp
 have d4 : w1.cell? ⟨w.heap.size, 4, none⟩ = some (.int .i64 pl) := by rw [hw1]; simp
 have d5 : w1.cell? ⟨w.heap.size, 5, none⟩ = some (.int .i64 pb) := by rw [hw1]; simp
 have hF : Fr NoB w w1 := by rw [hw1]; (repeat (first | exact Fr.refl _ _ | refine Fr.alloc ?_ _ | refine Fr.setNew ?_ (by omega) _ _ | refine Fr.drewN ?_ _ | refine Fr.drew ?_))
 have c43 := (H.out.keep0 hF).c43
 have f43 := (H.out.keep0 hF).tn.fz 43
 rw [hc] at c43
 clear hw1 hc
 generalize w.heap.size = z at *
 have HF := zh hF; clear hF
 go_wp2_with fail
 refine (RNode_yes _ _ a0 a1).mono ?_; rintro e w' ⟨rfl, rfl⟩
 by_cases hn : n = 0
 ·have hnb : (n == 0) = true := by simpa using hn
  have hH : Fb.ownH a n = -2 := by unfold Fb.ownH; rw [if_pos hn]
  rw [hH] at HR;clear hn hH
  go_wp2_with fail
  go_region_held3 (fun W => W.cell? ⟨y.b, 43, none⟩ = some (.slice al s.o.length c) ∧ W.cell? ⟨z, 4, none⟩ = some (.int .i64 pl) ∧ W.cell? ⟨z, 5, none⟩ = some (.int .i64 pb))
   (first | exact ⟨c43, d4, d5⟩ | exact ⟨e43, e4, e5⟩)
   (first | (go_at_call 98; refine (SetOf_any al c s.o pl pb (-2) _ (by have := HO.out.len; omega) HO.out.wf (by exact (H.out.keep0 HF.out).rs) (fun q hq => (H.out.sep q hq).1)).mono ?_; rintro e w4 ⟨a', c', rfl, hr, hq, hf⟩; have e43 := cell_fr' hf c43 nB; have e4 := cell_fr' hf d4 nB; have e5 := cell_fr' hf d5 nB; have g43 := (H.out.keep0 (HF.out.trans ((Fr.refl NoB w1).drew.trans hf))).tn.fz 43; have HQ := zh hq; have HR4 := zh hr; have HF4 := zh hf; clear hq hr hf))
  go_wp2;rw [HR.out]
  exact TwDo.own H.out HF.out.drew HF4.out HR4.out HQ.out
 have hnb : (n == 0) = false := by simpa using hn
 have hH : Fb.ownH a n = a := by unfold Fb.ownH; rw [if_neg hn]
 rw [hH] at HR
 clear hn hH
 go_wp2_with fail
 go_region_held3 (fun W => W.cell? ⟨y.b, 43, none⟩ = some (.slice al s.o.length c) ∧ W.cell? ⟨z, 4, none⟩ = some (.int .i64 pl) ∧ W.cell? ⟨z, 5, none⟩ = some (.int .i64 pb))
  (first | exact ⟨c43, d4, d5⟩ | exact ⟨e43, e4, e5⟩)
  (first | (go_at_call 98; refine (SetOf_any al c s.o pl pb a _ (by have := HO.out.len; omega) HO.out.wf (by exact (H.out.keep0 HF.out).rs) (fun q hq => (H.out.sep q hq).1)).mono ?_; rintro e w4 ⟨a', c', rfl, hr, hq, hf⟩; have e43 := cell_fr' hf c43 nB; have e4 := cell_fr' hf d4 nB; have e5 := cell_fr' hf d5 nB; have g43 := (H.out.keep0 (HF.out.trans ((Fr.refl NoB w1).drew.trans hf))).tn.fz 43; have HQ := zh hq; have HR4 := zh hr; have HF4 := zh hf; clear hq hr hf))
 go_wp2
 rw [HR.out]
 exact TwDo.own H.out HF.out.drew HF4.out HR4.out HQ.out
theorem TwDo_any (y : TIds) (u : Value) (al : Option Addr) (s : Fb.PT) (k a b n pl pb : Int) (m : Nat) (w : World) (hs : Fb.POk s m) (hm : m ≤ 1000) (h : TwAt w y u al s) : TwSaid y u al s k a b n pl pb w := by
 by_cases h7 : k = 7
 ·subst h7;by_cases ha : Nt.isN a
  ·exact TwDo_own y u al s a b n pl pb w ha hs.o h
  exact TwDo_no y u al s a b n pl pb w ha h
 unfold TwSaid
 rw [Fb.doP_net s h7]
 exact (TDo_any y u s.t k a b n pl pb m w hs.str.ok hm h7 h.tn).mono fun e w' hd => TwDo.net h hd
structure Two (w wr : World) (t : Nat) (v : Value) (a : Option Addr) (L : List Tb.Rt) : Prop where
 at_ : TAt wr t v L
 rs : Rs wr a L
 new : w.heap.size ≤ t
 own : ∀ g, v.ownBlock = some g → w.heap.size ≤ g
 sep : ∀ q, a = some q → q.spot = none ∧ q.block ≠ t ∧ v.ownBlock ≠ some q.block ∧ q.block < wr.heap.size
 f : Fr NoB w wr
theorem Fr.noB {t : Nat} {v : Value} {w w1 w2 : World} (h : Fr NoB w w1) (hf : Fr (TB t v) w1 w2) (ht : w.heap.size ≤ t) (hv : ∀ g, v.ownBlock = some g → w.heap.size ≤ g) : Fr NoB w w2 :=
 h.trans' hf (fun i hi e => by
  rcases e with e | e
  ·omega
  have := hv i e; omega)
structure Ow (w wr : World) (t : Nat) (v : Value) (L : List Tb.Rt) : Prop where
 at_ : TAt wr t v L
 new : w.heap.size ≤ t
 own : ∀ g, v.ownBlock = some g → w.heap.size ≤ g
 f : Fr NoB w wr
theorem Ow.keep0 {w wr wx : World} {t : Nat} {v : Value} {L : List Tb.Rt} (h : Ow w wr t v L) (hf : Fr NoB wr wx) : Ow w wx t v L := ⟨h.at_.keep0 hf, h.new, h.own, h.f.trans hf⟩
theorem Ow.set {w wr wx : World} {t : Nat} {v v' : Value} {L L' : List Tb.Rt} (h : Ow w wr t v L) (hT : TAt wx t v' L') (hf : Fr (TB t v) wr wx) (ho : ∀ g, v'.ownBlock = some g → v.ownBlock = some g ∨ wr.heap.size ≤ g) : Ow w wx t v' L' :=
 ⟨hT, h.new, fun g hg => by
  rcases ho g hg with k | k
  ·exact h.own g k
  have := h.f.size; omega, h.f.noB hf h.new h.own⟩
def Sep (wr : World) (t : Nat) (v : Value) (a : Option Addr) : Prop := ∀ q, a = some q → ¬ TB t v q.block ∧ q.block < wr.heap.size
theorem Sep.keep0 {wr wx : World} {t : Nat} {v : Value} {a : Option Addr} (h : Sep wr t v a) (hf : Fr NoB wr wx) : Sep wx t v a := fun q hq => ⟨(h q hq).1, Nat.lt_of_lt_of_le (h q hq).2 hf.size⟩
theorem Sep.set {wr wx : World} {t : Nat} {v v' : Value} {a : Option Addr} (h : Sep wr t v a) (hf : Fr (TB t v) wr wx) (ho : ∀ g, v'.ownBlock = some g → v.ownBlock = some g ∨ wr.heap.size ≤ g) : Sep wx t v' a := fun q hq => by
 obtain ⟨h1, h2⟩ := h q hq
 refine ⟨fun e => ?_, Nat.lt_of_lt_of_le h2 hf.size⟩
 rcases e with e | e
 ·exact h1 (.inl e)
 rcases ho _ e with k | k
 ·exact h1 (.inr k)
 omega
theorem Rs.sep {wr wx : World} {t : Nat} {v : Value} {a : Option Addr} {L : List Tb.Rt} (h : Rs wr a L) (hs : Sep wr t v a) (hf : Fr (TB t v) wr wx) : Rs wx a L := h.keep hf (fun p hp => (hs p hp).1)
theorem clone_sep {wr wx : World} {t : Nat} {v : Value} {L : List Tb.Rt} (h : TAt wr t v L) {a : Option Addr} {n c : Nat} {K : List Tb.Rt} (hv : SlR wx wr.heap.size (.slice a n c) K) : Sep wx t v a := fun q hq => by
 subst hq
 obtain ⟨_, cap, e, _, hb, _⟩ := hv.shape
 cases e
 obtain ⟨h1, h2⟩ := hb q rfl
 refine ⟨fun e => ?_, (oL hv _ h2).2⟩
 rcases e with e | e
 ·have := World.rowIs.lt h.row; omega
 have := (oL h.sl _ e).2; omega
structure N5 (w : World) (b : Nat) (p : Tb.Pf) (h : Int) (lo hi : Value) : Prop where
 c0 : w.cell? ⟨b, 0, none⟩ = some (.int .i64 p.len)
 c1 : w.cell? ⟨b, 1, none⟩ = some (.int .i64 p.bits)
 c2 : w.cell? ⟨b, 2, none⟩ = some (.int .i64 h)
 c3 : w.cell? ⟨b, 3, none⟩ = some lo
 c4 : w.cell? ⟨b, 4, none⟩ = some hi
theorem N5.keep0 {w w' : World} {b : Nat} {p : Tb.Pf} {h : Int} {lo hi : Value} (k : N5 w b p h lo hi) (hf : Fr NoB w w') : N5 w' b p h lo hi :=
 ⟨cell_fr' hf k.c0 nB, cell_fr' hf k.c1 nB, cell_fr' hf k.c2 nB, cell_fr' hf k.c3 nB, cell_fr' hf k.c4 nB⟩
def TrAt (w : World) : Tb.Tr → Nat → Prop
 | .leaf p h, b => N5 w b p h (.pointer none) (.pointer none)
 | .node p l r, b => ∃ bl br, N5 w b p 0 (.pointer (some ⟨bl, 0, none⟩)) (.pointer (some ⟨br, 0, none⟩)) ∧ TrAt w l bl ∧ TrAt w r br
theorem TrAt.keep0 {w w' : World} (hf : Fr NoB w w') : ∀ {T : Tb.Tr} {b : Nat}, TrAt w T b → TrAt w' T b
 | .leaf _ _, _, h => N5.keep0 h hf
 | .node _ _ _, _, ⟨bl, br, h, hl, hr⟩ => ⟨bl, br, h.keep0 hf, TrAt.keep0 hf hl, TrAt.keep0 hf hr⟩
theorem TrAt.c01 {w : World} : ∀ {T : Tb.Tr} {b : Nat}, TrAt w T b → w.cell? ⟨b, 0, none⟩ = some (.int .i64 T.root.len) ∧ w.cell? ⟨b, 1, none⟩ = some (.int .i64 T.root.bits) ∧ w.cell? ⟨b, 2, none⟩ = some (.int .i64 T.hop0)
 | .leaf _ _, _, h => ⟨h.c0, h.c1, h.c2⟩
 | .node _ _ _, _, ⟨_, _, h, _, _⟩ => ⟨h.c0, h.c1, h.c2⟩
theorem Leaf_any (T : Tb.Tr) (b : Nat) (w : World) (h : TrAt w T b) :
  Calls Tryz.prog 148 #[.pointer (some ⟨b, 0, none⟩)] w (fun e w' => e = .returned (.bool T.isLeaf) ∧ w = w') := by
 cases T with
 | leaf p x =>
  have c3 := N5.c3 h
  clear h;go_enter Tryz.func148, Tryz.ntmps148
  go_wp2;go_ret
  exact ⟨rfl, rfl⟩
 | node p l r =>
  obtain ⟨bl, br, h, _, _⟩ := h
  have c3 := h.c3
  clear h;go_enter Tryz.func148, Tryz.ntmps148
  go_wp2;go_ret
  exact ⟨rfl, rfl⟩
theorem or0 : ∀ n : Nat, n < 256 → bits BinOp.or IntKind.i64 ((n : Int) * 2) 0 = (n : Int) * 2 + 0 := by decide +kernel
theorem or1 : ∀ n : Nat, n < 256 → bits BinOp.or IntKind.i64 ((n : Int) * 2) 1 = (n : Int) * 2 + 1 := by decide +kernel
def pfA (p : Tb.Pf) : Value := .agg #[.int .i64 p.len, .int .i64 p.bits]
def ChPost (p : Tb.Pf) (w : World) (e : Ending) (w' : World) : Prop := e = .returned (.tuple #[pfA p, .bool true]) ∧ Fr NoB w w'
theorem Child0 (l b : Int) (w : World) (h : Tb.ok ⟨l, b⟩) (hl : l < 8) :
  Calls Tryz.prog 177 #[.agg #[.int .i64 l, .int .i64 b], .int .i64 0] w (ChPost (Tb.child ⟨l, b⟩ 0) w) := by
 have hd := decide_eq_true h
 have h1 := h.1
 have h3 := h.2.2.1
 have h4 : b < 256 := by rcases Tb.ok_cases h with h | h | h | h | h | h | h | h | h <;> (have := h.2.2; dsimp only at this; omega)
 dsimp only at h1 h3
 have hb8 : (l == 8) = false := by simp; omega
 have HD := zh hd; clear hd; have H := zh h; clear h
 obtain ⟨n, rfl⟩ := Int.eq_ofNat_of_zero_le h3
 have hor := or0 n (by omega)
 go_enter Tryz.func177, Tryz.ntmps177
 go_upto_region 1 with fail
 refine wp_name fun w1 hw1 => ?_
 have c0 : w1.cell? ⟨w.heap.size, 0, none⟩ = some (.int .i64 l) := by rw [hw1]; simp
 have c1 : w1.cell? ⟨w.heap.size, 1, none⟩ = some (.int .i64 (n : Int)) := by rw [hw1]; simp
 have hF : Fr NoB w w1 := by rw [hw1]; (repeat (first | exact Fr.refl _ _ | refine Fr.alloc ?_ _ | refine Fr.setNew ?_ (by omega) _ _ | refine Fr.drewN ?_ _ | refine Fr.drew ?_))
 have hr : w1.rowIs (w.heap.size + 1) 83 2 (fun _ => .int .i64 0) := by
  rw [hw1];have := rowIs_new (w.alloc (.cells #[.int .i64 l, .int .i64 (n : Int)] 83)) 2 (.int .i64 0) 83
  have e : (w.alloc (.cells #[.int .i64 l, .int .i64 (n : Int)] 83)).heap.size = w.heap.size + 1 := by simp
  rw [e] at this;exact this
 clear hw1
 have HF := zh hF; clear hF; have HR := zh hr; clear hr
 go_wp2_with fail
 refine (Check_any l n _).mono ?_
 rw [HD.out]
 rintro e w2 ⟨rfl, hf⟩
 have c0 := cell_fr' hf c0 nB
 have c1 := cell_fr' hf c1 nB
 have hr := hf.row HR.out (fun h => h)
 have z0 := rC hr (i := 0) (by omega)
 have z1 := rC hr (i := 1) (by omega)
 have f0 := rF hr 0
 have f1 := rF hr 1
 have HF2 := zh (HF.out.trans hf)
 clear hf hr
 go_wp2
 refine bodyPost_ret (v := .tuple #[pfA (Tb.child ⟨l, n⟩ 0), .bool true]) ?_ rfl (show ChPost (Tb.child ⟨l, n⟩ 0) w (.returned (.tuple #[pfA (Tb.child ⟨l, n⟩ 0), .bool true])) _ from ⟨rfl, (HF2.out.setNew (Nat.le_succ _) _ _).setNew (Nat.le_succ _) _ _⟩)
 simp [results, Tryz.results177, go_sem, pfA, Tb.child, z0, z1]
theorem Child1 (l b : Int) (w : World) (h : Tb.ok ⟨l, b⟩) (hl : l < 8) :
  Calls Tryz.prog 177 #[.agg #[.int .i64 l, .int .i64 b], .int .i64 1] w (ChPost (Tb.child ⟨l, b⟩ 1) w) := by
 have hd := decide_eq_true h
 have h1 := h.1
 have h3 := h.2.2.1
 have h4 : b < 256 := by rcases Tb.ok_cases h with h | h | h | h | h | h | h | h | h <;> (have := h.2.2; dsimp only at this; omega)
 dsimp only at h1 h3
 have hb8 : (l == 8) = false := by simp; omega
 have HD := zh hd; clear hd; have H := zh h; clear h
 obtain ⟨n, rfl⟩ := Int.eq_ofNat_of_zero_le h3
 have hor := or1 n (by omega)
 go_enter Tryz.func177, Tryz.ntmps177
 go_upto_region 1 with fail
 refine wp_name fun w1 hw1 => ?_
 have c0 : w1.cell? ⟨w.heap.size, 0, none⟩ = some (.int .i64 l) := by rw [hw1]; simp
 have c1 : w1.cell? ⟨w.heap.size, 1, none⟩ = some (.int .i64 (n : Int)) := by rw [hw1]; simp
 have hF : Fr NoB w w1 := by rw [hw1]; (repeat (first | exact Fr.refl _ _ | refine Fr.alloc ?_ _ | refine Fr.setNew ?_ (by omega) _ _ | refine Fr.drewN ?_ _ | refine Fr.drew ?_))
 have hr : w1.rowIs (w.heap.size + 1) 83 2 (fun _ => .int .i64 0) := by
  rw [hw1];have := rowIs_new (w.alloc (.cells #[.int .i64 l, .int .i64 (n : Int)] 83)) 2 (.int .i64 0) 83
  have e : (w.alloc (.cells #[.int .i64 l, .int .i64 (n : Int)] 83)).heap.size = w.heap.size + 1 := by simp
  rw [e] at this;exact this
 clear hw1
 have HF := zh hF; clear hF; have HR := zh hr; clear hr
 go_wp2_with fail
 refine (Check_any l n _).mono ?_
 rw [HD.out]
 rintro e w2 ⟨rfl, hf⟩
 have c0 := cell_fr' hf c0 nB
 have c1 := cell_fr' hf c1 nB
 have hr := hf.row HR.out (fun h => h)
 have z0 := rC hr (i := 0) (by omega)
 have z1 := rC hr (i := 1) (by omega)
 have f0 := rF hr 0
 have f1 := rF hr 1
 have HF2 := zh (HF.out.trans hf)
 clear hf hr
 go_wp2
 refine bodyPost_ret (v := .tuple #[pfA (Tb.child ⟨l, n⟩ 1), .bool true]) ?_ rfl (show ChPost (Tb.child ⟨l, n⟩ 1) w (.returned (.tuple #[pfA (Tb.child ⟨l, n⟩ 1), .bool true])) _ from ⟨rfl, (HF2.out.setNew (Nat.le_succ _) _ _).setNew (Nat.le_succ _) _ _⟩)
 simp [results, Tryz.results177, go_sem, pfA, Tb.child, z0, z1]
end Go.Proofs.YtffoilacaffdgaaGreatDoor
