/- Walks: (*Table).Set, where it sets a new route. -/
import Derived.Test.YteedndapbfihaaaGreatB25
import Derived.Test.YteedndapbfihaaaGreatB12
import Derived.Test.YteedndapbfihaaaGreatB11
import Derived.Test.YteedndapbfihaaaGreatB22
namespace Go.Proofs.YteedndapbfihaaaGreat
open Go.RowKit Go.Deep

theorem wpAnyH_name {P : Program} {md : Region.Mode} {ops : Array Oper} {Q : Exit → Act → World → Prop} {S : World → Prop} {fuel : Nat} {listed : Array Bool} {a : Act} {W : World} (h : ∀ w1, w1 = W → wpAnyH P md ops Q S fuel listed a w1) : wpAnyH P md ops Q S fuel listed a W := h W rfl
theorem new_row3 (w : World) (r : Tb.Rt) : (w.alloc (.cells #[.int .i64 r.p.len, .int .i64 r.p.bits, .int .i64 r.hop] 87)).rowIs w.heap.size 87 3 (rtV r) := by
  refine World.rowIs_alloc w #[.int .i64 r.p.len, .int .i64 r.p.bits, .int .i64 r.hop] 87 (rtV r) (fun i hi => ?_)
  match i, hi with
  | 0, _ => rfl
  | 1, _ => rfl
  | 2, _ => rfl
set_option maxRecDepth 100000 in
set_option maxHeartbeats 4000000 in
theorem Set_new (t : Nat) (v : Value) (L : List Tb.Rt) (l b hop : Int) (w : World) (hl : L.length ≤ 40) (hw : Tb.Wf L) (h : TAt w t v L) (hok : Tb.ok ⟨l, b⟩) (hg : Tb.get L ⟨l, b⟩ = -2) (h2 : hop ≠ -2) (hho : Tb.hopOK hop) (h40 : L.length < 40) :
    Calls Tryz.prog 45 #[.pointer (some ⟨t, 0, none⟩), .agg #[.int .i64 l, .int .i64 b], .int .i64 hop] w (SetOk t v (Tb.setOk L ⟨l, b⟩ hop) w) := by
  obtain ⟨e1, e2⟩ := Tb.notfound_split hw hok hg
  have hil : (Tb.lo L ⟨l, b⟩).length ≤ L.length := Tb.lo_le _ _
  have hlt := World.rowIs.lt h.row
  have hvl : ∀ g, v.ownBlock = some g → g < w.heap.size := fun g hg => (World.ownsRow.lt h.sl g hg).2
  obtain ⟨a, c, hva, ha, _, hcell⟩ := h.shape
  have HA := Lib.hid ha; clear ha; have HW := Lib.hid hw; clear hw; have HLL := Lib.hid hl; clear hl; have HC := Lib.hid hcell; clear hcell; have H := Lib.hid h; clear h; have HVL := Lib.hid hvl; clear hvl
  have hdg := decide_eq_false (show ¬ Tb.get L ⟨l, b⟩ ≠ -2 from fun h => h hg)
  have hd := decide_eq_true hok
  have hd2 := decide_eq_true hho
  have hb : (hop == -2) = false := by simpa using h2
  have hb2 : (hop != -2) = true := by simpa using h2
  have hb40 : ((L.length : Int) == 40) = false := by simp; omega
  have hL : Tb.setOk L ⟨l, b⟩ hop = L.take (Tb.lo L ⟨l, b⟩).length ++ ⟨⟨l, b⟩, hop⟩ :: L.drop (Tb.lo L ⟨l, b⟩).length := by
    unfold Tb.setOk Tb.mid
    rw [if_neg h2, ← e1, ← e2, List.append_assoc]
    rfl
  rw [hL]
  clear e1 e2 hL
  generalize hi : (Tb.lo L ⟨l, b⟩).length = i at *
  have HI := Lib.hid hi; clear hi
  have hl40 : (L.length : Int) ≤ 40 := by omega
  have HD := Lib.hid hd; clear hd; have HOK := Lib.hid hok; clear hok; have HDG := Lib.hid hdg; clear hdg; have HD2 := Lib.hid hd2; clear hd2; have HHO := Lib.hid hho; clear hho; have HIL := Lib.hid hil; clear hil; have HVA := Lib.hid hva; clear hva
  clear hg h2 h40
  go_enter Tryz.func45, Tryz.ntmps45
  go_upto_region 1 with fail
  refine wp_name fun w1 hw1 => ?_
  have c0 : w1.cell? ⟨w.heap.size, 0, none⟩ = some (.int .i64 l) := by rw [hw1]; simp
  have c1 : w1.cell? ⟨w.heap.size, 1, none⟩ = some (.int .i64 b) := by rw [hw1]; simp
  have hF : Fr NoB w w1 := by rw [hw1]; (repeat (first | exact Fr.refl _ _ | refine Fr.alloc ?_ _ | refine Fr.setNew ?_ (by omega) _ _ | refine Fr.drewN ?_ _ | refine Fr.drew ?_))
  have hc := cell_fr' hF HC.out (fun h => h)
  clear hw1
  have HF0 := Lib.hid hF; clear hF
  go_wp2_with fail
  refine (at_any t a c L l b _ (by have := HLL.out; omega) HW.out (HA.out.keep0 HF0.out) hc).mono ?_
  unfold AtPost
  rw [HDG.out, HI.out]
  rintro e w2 ⟨rfl, hf⟩
  have c0 := cell_fr' hf c0 (fun h => h)
  have c1 := cell_fr' hf c1 (fun h => h)
  have hc := cell_fr' hf hc (fun h => h)
  have HF1 := Lib.hid (HF0.out.trans hf)
  clear hf HF0
  go_wp2_with fail
  refine (Check_any l b _).mono ?_
  rw [HD.out]
  rintro e w3 ⟨rfl, hf⟩
  have c0 := cell_fr' hf c0 (fun h => h)
  have c1 := cell_fr' hf c1 (fun h => h)
  have hc := cell_fr' hf hc (fun h => h)
  have HF2 := Lib.hid (HF1.out.trans hf)
  clear hf HF1
  go_wp2_with fail
  refine (Hop_any hop _).mono ?_
  rw [HD2.out]
  rintro e w4 ⟨rfl, rfl⟩
  have hT := H.out.keep0 HF2.out
  have hgrow := HF2.out.size
  have hbs : w.heap.size < w3.heap.size := World.block_lt_of_cell? w3 _ c0
  have hv0 : ∀ q, w.heap.size ≤ q → v.ownBlock ≠ some q := fun q hq e => by have := HVL.out q e; omega
  have hkey : ∀ (W w5 : World) (v' : Value), Fr NoB w3 W → SlR w5 0 v' (L.take i ++ ⟨⟨l, b⟩, hop⟩ :: L.drop i) → Fr (fun k => v.ownBlock = some k) W w5 → (∀ g, v'.ownBlock = some g → v.ownBlock = some g ∨ W.heap.size ≤ g) →
      w5.cell? ⟨t, 0, none⟩ = some (.slice a L.length c) ∧ w5.frozen? ⟨t, 0, none⟩ = false ∧ Hid (SetOk t v (L.take i ++ ⟨⟨l, b⟩, hop⟩ :: L.drop i) w (.returned (.int .i64 0)) (w5.setCell ⟨t, 0, none⟩ v')) := by
    intro W w5 v' hW hv hf hob
    have hTW := hT.keep0 hW
    have hn' : v'.ownBlock ≠ some t := fun e => by
      rcases hob t e with h | h
      · exact H.out.ne h
      · have := hW.size
        omega
    refine ⟨cell_fr' hf (cell_fr' hW hc (fun h => h)) (fun e => H.out.ne e), World.rowIs.frozen (hf.row hTW.row (fun e => H.out.ne e)) 0, rfl, v', hTW.store hv hf hn', ?_, ?_⟩
    · exact ((((HF2.out.trans hW).mono (fun _ _ h => h.elim)).trans (hf.mono (fun _ _ h => .inr h))).setCell (p := ⟨t, 0, none⟩) (.inl (.inl rfl)) _)
    · intro g' hg'
      rcases hob g' hg' with h | h
      · exact .inl h
      · have := hW.size
        exact .inr (by omega)
  have HV0 := Lib.hid hv0
  have HL1 : Hid (L.length ≤ 1000) := by have := HLL.out; show L.length ≤ 1000; omega
  have HKEY := Lib.hid hkey
  have HT := Lib.hid hT
  clear hv0 hkey hT
  obtain rfl := HVA.out
  go_upto_region 10 with fail
  (refine wp_region_held_drew (S := (fun W => W.cell? ⟨w.heap.size, 0, none⟩ = some (.int .i64 l) ∧ W.cell? ⟨w.heap.size, 1, none⟩ = some (.int .i64 b))) (by kernel_rfl) ⟨c0, c1⟩ (fun hHeld => ?_))
  (refine wpAnyH_take (i := 0) (v := ?_) (by simp only [List.getElem?_toArray, List.getElem?_cons_zero]; rfl) (by kernel_rfl) (by kernel_rfl) (by kernel_rfl) (by exact fun _ _ _ h => h) (Or.inl ⟨by rfl, ?_⟩) hHeld ?_; rotate_left; (focus (intro w hSw; (try dsimp only at hSw); go_simp; all_goals with_reducible rfl)); (try simp only [Act.put, List.setIfInBounds_toArray, List.set_cons_zero, List.set_cons_succ])); (refine wpAnyH_take (i := 1) (v := ?_) (by simp only [List.getElem?_toArray, List.getElem?_cons_succ, List.getElem?_cons_zero]; rfl) (by kernel_rfl) (by kernel_rfl) (by kernel_rfl) (by exact fun _ _ _ h => h) (Or.inl ⟨by rfl, ?_⟩) hHeld ?_; rotate_left; (focus (intro w hSw; (try dsimp only at hSw); go_simp; all_goals with_reducible rfl)); (try simp only [Act.put, List.setIfInBounds_toArray, List.set_cons_zero, List.set_cons_succ])); (refine wpAnyH_take (i := 2) (v := ?_) (by simp only [List.getElem?_toArray, List.getElem?_cons_succ, List.getElem?_cons_zero]; rfl) (by kernel_rfl) (by kernel_rfl) (by kernel_rfl) (by exact fun _ _ _ h => h) (Or.inl ⟨by rfl, ?_⟩) hHeld ?_; rotate_left; (focus (intro w hSw; (try dsimp only at hSw); go_simp; all_goals with_reducible rfl)); (try simp only [Act.put, List.setIfInBounds_toArray, List.set_cons_zero, List.set_cons_succ])); (refine wpAnyH_take (i := 3) (v := ?_) (by simp only [List.getElem?_toArray, List.getElem?_cons_succ, List.getElem?_cons_zero]; rfl) (by kernel_rfl) (by kernel_rfl) (by kernel_rfl) (by exact fun _ _ _ h => h) (Or.inl ⟨by rfl, ?_⟩) hHeld ?_; rotate_left; (focus (intro w hSw; (try dsimp only at hSw); go_simp; all_goals with_reducible rfl)); (try simp only [Act.put, List.setIfInBounds_toArray, List.set_cons_zero, List.set_cons_succ])); (refine wpAnyH_take (i := 5) (v := ?_) (by simp only [List.getElem?_toArray, List.getElem?_cons_succ, List.getElem?_cons_zero]; rfl) (by kernel_rfl) (by kernel_rfl) (by kernel_rfl) (by exact fun _ _ _ h => h) (Or.inl ⟨by rfl, ?_⟩) hHeld ?_; rotate_left; (focus (intro w hSw; (try dsimp only at hSw); go_simp; all_goals with_reducible rfl)); (try simp only [Act.put, List.setIfInBounds_toArray, List.set_cons_zero, List.set_cons_succ])); (refine wpAnyH_take (i := 6) (v := ?_) (by simp only [List.getElem?_toArray, List.getElem?_cons_succ, List.getElem?_cons_zero]; rfl) (by kernel_rfl) (by kernel_rfl) (by kernel_rfl) (by exact fun _ _ _ h => h) (Or.inl ⟨by rfl, ?_⟩) hHeld ?_; rotate_left; (focus (intro w hSw; (try dsimp only at hSw); go_simp; all_goals with_reducible rfl)); (try simp only [Act.put, List.setIfInBounds_toArray, List.set_cons_zero, List.set_cons_succ])); (refine wpAnyH_take (i := 7) (v := ?_) (by simp only [List.getElem?_toArray, List.getElem?_cons_succ, List.getElem?_cons_zero]; rfl) (by kernel_rfl) (by kernel_rfl) (by kernel_rfl) (by exact fun _ _ _ h => h) (Or.inl ⟨by rfl, ?_⟩) hHeld ?_; rotate_left; (focus (intro w hSw; (try dsimp only at hSw); go_simp; all_goals with_reducible rfl)); (try simp only [Act.put, List.setIfInBounds_toArray, List.set_cons_zero, List.set_cons_succ])); (refine wpAnyH_take (i := 8) (v := ?_) (by simp only [List.getElem?_toArray, List.getElem?_cons_succ, List.getElem?_cons_zero]; rfl) (by kernel_rfl) (by kernel_rfl) (by kernel_rfl) (by exact fun _ _ _ h => h) (Or.inl ⟨by rfl, ?_⟩) hHeld ?_; rotate_left; (focus (intro w hSw; (try dsimp only at hSw); go_simp; all_goals with_reducible rfl)); (try simp only [Act.put, List.setIfInBounds_toArray, List.set_cons_zero, List.set_cons_succ]))
  refine wpAnyH_ready (rs := [4, 9]) (by kernel_rfl) (by simp) ?_
  refine AllReadyH.cons (by simp only [List.getElem?_toArray, List.getElem?_cons_succ, List.getElem?_cons_zero]; rfl) (fun K hK => ?_) (AllReadyH.cons (by simp only [List.getElem?_toArray, List.getElem?_cons_succ, List.getElem?_cons_zero]; rfl) (fun K hK => ?_) AllReadyH.nil)
  · go_simp
    (try go_wp2_with fail)
    refine hK.out _ _ ⟨c0, c1⟩ (fun hHeld => ?_)
    clear hK K
    (try simp only [Act.put, List.setIfInBounds_toArray, List.set_cons_zero, List.set_cons_succ])
    (refine wpAnyH_ready (rs := [9]) (by kernel_rfl) (by simp) ?_; refine AllReadyH.cons (by simp only [List.getElem?_toArray, List.getElem?_cons_succ, List.getElem?_cons_zero]; rfl) (fun K hK => ?_) AllReadyH.nil; go_simp); (skip); (try go_wp2_with fail); (refine hK.out _ _ ⟨cell_alloc c0 _, cell_alloc c1 _⟩ (fun hHeld => ?_)); clear hK K; (try simp only [Act.put, List.setIfInBounds_toArray, List.set_cons_zero, List.set_cons_succ])
    refine wpAnyH_name fun w4 hw4 => ?_
    rw [← hw4] at hHeld
    have hF : Fr NoB w3 w4 := by rw [hw4]; exact (Fr.refl _ _).drew.alloc _
    have hrow : w4.rowIs w3.heap.size 87 3 (rtV ⟨⟨l, b⟩, hop⟩) := by rw [hw4]; exact new_row3 _ ⟨⟨l, b⟩, hop⟩
    clear hw4
    have q0 := cell_fr' hF c0 (fun h => h)
    have q1 := cell_fr' hF c1 (fun h => h)
    have hc4 := cell_fr' hF hc (fun h => h)
    have HT4 := Lib.hid (HT.out.keep0 hF)
    have HRow := Lib.hid hrow
    have HF4 := Lib.hid hF
    clear hrow hF
    (refine wpAnyH_ready (rs := [10]) (by kernel_rfl) (by simp) ?_; refine AllReadyH.cons (by simp only [List.getElem?_toArray, List.getElem?_cons_succ, List.getElem?_cons_zero]; rfl) (fun K hK => ?_) AllReadyH.nil; go_simp); (refine (Insert_any (.slice a L.length c) L i ⟨⟨l, b⟩, hop⟩ w3.heap.size _ HL1.out HIL.out HT4.out.sl HRow.out (HV0.out _ hgrow)).mono ?_; rintro e w5 ⟨v', rfl, hv, hf, hob⟩; obtain ⟨a', c', rfl, _⟩ := hv.shape; generalize (L.take i ++ (⟨⟨l, b⟩, hop⟩ : Tb.Rt) :: L.drop i).length = n' at *; obtain ⟨y0, y1, hs⟩ := HKEY.out _ w5 _ HF4.out hv hf hob; have x0 := cell_fr' hf q0 (fun e => HV0.out _ (Nat.le_refl _) e); have x1 := cell_fr' hf q1 (fun e => HV0.out _ (Nat.le_refl _) e); clear hv hf hob); (try go_wp2_with fail); (refine hK.out _ _ ⟨x0, x1⟩ (fun hHeld => ?_)); clear hK K; (try simp only [Act.put, List.setIfInBounds_toArray, List.set_cons_zero, List.set_cons_succ])
    (refine wpAnyH_take (i := 11) (v := ?_) (by simp only [List.getElem?_toArray, List.getElem?_cons_succ, List.getElem?_cons_zero]; rfl) (by kernel_rfl) (by kernel_rfl) (by kernel_rfl) (by exact fun _ _ _ h => h) (Or.inl ⟨by rfl, ?_⟩) hHeld ?_; rotate_left; (focus (intro w hSw; (try dsimp only at hSw); go_simp; all_goals with_reducible rfl)); (try simp only [Act.put, List.setIfInBounds_toArray, List.set_cons_zero, List.set_cons_succ])); (refine wpAnyH_take (i := 12) (v := ?_) (by simp only [List.getElem?_toArray, List.getElem?_cons_succ, List.getElem?_cons_zero]; rfl) (by kernel_rfl) (by kernel_rfl) (by kernel_rfl) (by exact fun _ _ _ h => h) (Or.inl ⟨by rfl, ?_⟩) hHeld ?_; rotate_left; (focus (intro w hSw; (try dsimp only at hSw); go_simp; all_goals with_reducible rfl)); (try simp only [Act.put, List.setIfInBounds_toArray, List.set_cons_zero, List.set_cons_succ]))
    (refine wpAnyH_ready (rs := [13]) (by kernel_rfl) (by simp) ?_; refine AllReadyH.cons (by simp only [List.getElem?_toArray, List.getElem?_cons_succ, List.getElem?_cons_zero]; rfl) (fun K hK => ?_) AllReadyH.nil; go_simp); (skip); (try go_wp2_with fail); (refine hK.out _ _ ⟨cell_set x0 (Nat.ne_of_gt hlt), cell_set x1 (Nat.ne_of_gt hlt)⟩ (fun hHeld => ?_)); clear hK K; (try simp only [Act.put, List.setIfInBounds_toArray, List.set_cons_zero, List.set_cons_succ])
    (refine wpAnyH_done (by kernel_rfl) ?_ _)
    go_wp2
    go_ret
    exact hs.out
  · go_simp
    (try go_wp2_with fail)
    refine hK.out _ _ ⟨cell_alloc c0 _, cell_alloc c1 _⟩ (fun hHeld => ?_)
    clear hK K
    (try simp only [Act.put, List.setIfInBounds_toArray, List.set_cons_zero, List.set_cons_succ])
    refine wpAnyH_name fun w4 hw4 => ?_
    rw [← hw4] at hHeld
    have hF : Fr NoB w3 w4 := by rw [hw4]; exact (Fr.refl _ _).drew.alloc _
    have hrow : w4.rowIs w3.heap.size 87 3 (rtV ⟨⟨l, b⟩, hop⟩) := by rw [hw4]; exact new_row3 _ ⟨⟨l, b⟩, hop⟩
    clear hw4
    have q0 := cell_fr' hF c0 (fun h => h)
    have q1 := cell_fr' hF c1 (fun h => h)
    have hc4 := cell_fr' hF hc (fun h => h)
    have HT4 := Lib.hid (HT.out.keep0 hF)
    have HRow := Lib.hid hrow
    have HF4 := Lib.hid hF
    clear hrow hF
    (refine wpAnyH_ready (rs := [4]) (by kernel_rfl) (by simp) ?_; refine AllReadyH.cons (by simp only [List.getElem?_toArray, List.getElem?_cons_succ, List.getElem?_cons_zero]; rfl) (fun K hK => ?_) AllReadyH.nil; go_simp); (skip); (try go_wp2_with fail); (refine hK.out _ _ ⟨q0, q1⟩ (fun hHeld => ?_)); clear hK K; (try simp only [Act.put, List.setIfInBounds_toArray, List.set_cons_zero, List.set_cons_succ])
    (refine wpAnyH_ready (rs := [10]) (by kernel_rfl) (by simp) ?_; refine AllReadyH.cons (by simp only [List.getElem?_toArray, List.getElem?_cons_succ, List.getElem?_cons_zero]; rfl) (fun K hK => ?_) AllReadyH.nil; go_simp); (refine (Insert_any (.slice a L.length c) L i ⟨⟨l, b⟩, hop⟩ w3.heap.size _ HL1.out HIL.out HT4.out.sl HRow.out (HV0.out _ hgrow)).mono ?_; rintro e w5 ⟨v', rfl, hv, hf, hob⟩; obtain ⟨a', c', rfl, _⟩ := hv.shape; generalize (L.take i ++ (⟨⟨l, b⟩, hop⟩ : Tb.Rt) :: L.drop i).length = n' at *; obtain ⟨y0, y1, hs⟩ := HKEY.out _ w5 _ HF4.out hv hf hob; have x0 := cell_fr' hf q0 (fun e => HV0.out _ (Nat.le_refl _) e); have x1 := cell_fr' hf q1 (fun e => HV0.out _ (Nat.le_refl _) e); clear hv hf hob); (try go_wp2_with fail); (refine hK.out _ _ ⟨x0, x1⟩ (fun hHeld => ?_)); clear hK K; (try simp only [Act.put, List.setIfInBounds_toArray, List.set_cons_zero, List.set_cons_succ])
    (refine wpAnyH_take (i := 11) (v := ?_) (by simp only [List.getElem?_toArray, List.getElem?_cons_succ, List.getElem?_cons_zero]; rfl) (by kernel_rfl) (by kernel_rfl) (by kernel_rfl) (by exact fun _ _ _ h => h) (Or.inl ⟨by rfl, ?_⟩) hHeld ?_; rotate_left; (focus (intro w hSw; (try dsimp only at hSw); go_simp; all_goals with_reducible rfl)); (try simp only [Act.put, List.setIfInBounds_toArray, List.set_cons_zero, List.set_cons_succ])); (refine wpAnyH_take (i := 12) (v := ?_) (by simp only [List.getElem?_toArray, List.getElem?_cons_succ, List.getElem?_cons_zero]; rfl) (by kernel_rfl) (by kernel_rfl) (by kernel_rfl) (by exact fun _ _ _ h => h) (Or.inl ⟨by rfl, ?_⟩) hHeld ?_; rotate_left; (focus (intro w hSw; (try dsimp only at hSw); go_simp; all_goals with_reducible rfl)); (try simp only [Act.put, List.setIfInBounds_toArray, List.set_cons_zero, List.set_cons_succ]))
    (refine wpAnyH_ready (rs := [13]) (by kernel_rfl) (by simp) ?_; refine AllReadyH.cons (by simp only [List.getElem?_toArray, List.getElem?_cons_succ, List.getElem?_cons_zero]; rfl) (fun K hK => ?_) AllReadyH.nil; go_simp); (skip); (try go_wp2_with fail); (refine hK.out _ _ ⟨cell_set x0 (Nat.ne_of_gt hlt), cell_set x1 (Nat.ne_of_gt hlt)⟩ (fun hHeld => ?_)); clear hK K; (try simp only [Act.put, List.setIfInBounds_toArray, List.set_cons_zero, List.set_cons_succ])
    (refine wpAnyH_done (by kernel_rfl) ?_ _)
    go_wp2
    go_ret
    exact hs.out
end Go.Proofs.YteedndapbfihaaaGreat
/- Walks: Set and SetOf, whatever is asked. -/
namespace Go.Proofs.YteedndapbfihaaaGreat
open Go.RowKit Go.Deep

/-- The blocks of a table. -/
def TB (t : Nat) (v : Value) (k : Nat) : Prop := k = t ∨ v.ownBlock = some k
def SetTbPost (t : Nat) (v : Value) (L : List Tb.Rt) (p : Tb.Pf) (hop : Int) (w : World) (e : Ending) (w' : World) : Prop :=
  e = .returned (.int .i64 (Tb.setC L p hop)) ∧ ∃ v', TAt w' t v' (Tb.setL L p hop) ∧ Fr (TB t v) w w' ∧ ∀ g, v'.ownBlock = some g → v.ownBlock = some g ∨ w.heap.size ≤ g
theorem Set_any (t : Nat) (v : Value) (L : List Tb.Rt) (l b hop : Int) (w : World) (hl : L.length ≤ 40) (hw : Tb.Wf L) (h : TAt w t v L) :
    Calls Tryz.prog 45 #[.pointer (some ⟨t, 0, none⟩), .agg #[.int .i64 l, .int .i64 b], .int .i64 hop] w (SetTbPost t v L ⟨l, b⟩ hop w) := by
  by_cases hc : Tb.setC L ⟨l, b⟩ hop = 0
  · obtain ⟨hok, h2, h3, h4⟩ := Tb.setC_0 hc
    have hL : Tb.setL L ⟨l, b⟩ hop = Tb.setOk L ⟨l, b⟩ hop := by unfold Tb.setL; rw [if_pos hc]
    have key : Calls Tryz.prog 45 #[.pointer (some ⟨t, 0, none⟩), .agg #[.int .i64 l, .int .i64 b], .int .i64 hop] w (SetOk t v (Tb.setOk L ⟨l, b⟩ hop) w) := by
      by_cases hg : Tb.get L ⟨l, b⟩ = -2
      · have h5 : hop ≠ -2 := fun e => h3 ⟨hg, e⟩
        exact Set_new t v L l b hop w hl hw h hok hg h5 (h2.resolve_left h5) (by have : ¬ 40 ≤ L.length := fun k => h4 ⟨hg, k⟩; omega)
      · by_cases h5 : hop = -2
        · exact Set_del t v L l b hop w hl hw h hg h5
        · exact Set_put t v L l b hop w hl hw h hg h5 (h2.resolve_left h5)
    refine key.mono ?_
    rintro e w' ⟨rfl, v', h1, h2, h3⟩
    exact ⟨by rw [hc], v', by rw [hL]; exact h1, h2, h3⟩
  · have hL : Tb.setL L ⟨l, b⟩ hop = L := by unfold Tb.setL; rw [if_neg hc]
    refine (SetTb_no t v L l b hop w hl hw h hc).mono ?_
    rintro e w' ⟨rfl, hf⟩
    exact ⟨rfl, v, by rw [hL]; exact h.keep0 hf, hf.mono (fun _ _ h => h.elim), fun g hg => .inl hg⟩

def SoPost (a : Option Addr) (L : List Tb.Rt) (p : Tb.Pf) (hop : Int) (w : World) (e : Ending) (w' : World) : Prop :=
  ∃ a' c', e = .returned (.tuple #[.slice a' (Tb.setL L p hop).length c', .int .i64 (Tb.setC L p hop)]) ∧ Rs w' a' (Tb.setL L p hop) ∧
    (∀ q, a' = some q → q.spot = none ∧ (a = some q ∨ (w.heap.size ≤ q.block ∧ q.block < w'.heap.size))) ∧ Fr NoB w w'
theorem SetOf_any (a : Option Addr) (c : Nat) (L : List Tb.Rt) (l b hop : Int) (w : World) (hl : L.length ≤ 1000) (hw : Tb.Wf L) (ha : Rs w a L) (hs : ∀ q, a = some q → q.spot = none) :
    Calls Tryz.prog 73 #[.slice a L.length c, .agg #[.int .i64 l, .int .i64 b], .int .i64 hop] w (SoPost a L ⟨l, b⟩ hop w) := by
  by_cases hc : Tb.setC L ⟨l, b⟩ hop = 0
  · obtain ⟨hok, h2, h3, h4⟩ := Tb.setC_0 hc
    have hL : Tb.setL L ⟨l, b⟩ hop = Tb.soEnd (Tb.soF L ⟨l, b⟩ hop) ⟨l, b⟩ hop := by unfold Tb.setL; rw [if_pos hc, Tb.so_end hw hok]
    have key : Calls Tryz.prog 73 #[.slice a L.length c, .agg #[.int .i64 l, .int .i64 b], .int .i64 hop] w (SoOk L ⟨l, b⟩ hop w) := by
      by_cases hg : Tb.get L ⟨l, b⟩ = -2
      · have h5 : hop ≠ -2 := fun e => h3 ⟨hg, e⟩
        exact SetOf_new a c L l b hop w hl ha hok h5 (h2.resolve_left h5) hg (by have : ¬ 40 ≤ L.length := fun k => h4 ⟨hg, k⟩; omega)
      · by_cases h5 : hop = -2
        · exact SetOf_del a c L l b hop w hl ha hok h5 hg
        · exact SetOf_put a c L l b hop w hl ha hok h5 (h2.resolve_left h5) hg
    refine key.mono ?_
    rintro e w' ⟨v, rfl, hv, hf⟩
    rw [← hL] at hv
    obtain ⟨a', c', rfl, hr, hb, _⟩ := hv.shape
    obtain ⟨_, _, e2, _, _, _, _, _, hz⟩ := ownsRow_rd hv
    cases e2
    refine ⟨a', c', by rw [hc], hr, fun q hq => ⟨by rw [hz q hq], .inr ⟨(hb q hq).1, (World.ownsRow.lt hv _ (hb q hq).2).2⟩⟩, hf⟩
  · have hL : Tb.setL L ⟨l, b⟩ hop = L := by unfold Tb.setL; rw [if_neg hc]
    refine (SetOf_no a c L l b hop w hl ha hc).mono ?_
    rintro e w' ⟨rfl, hf⟩
    refine ⟨a, c, by rw [hL], by rw [hL]; exact ha.keep0 hf, fun q hq => ⟨hs q hq, .inl hq⟩, hf⟩

end Go.Proofs.YteedndapbfihaaaGreat
/- No way goes round. -/
namespace Go.Proofs.YteedndapbfihaaaGreat.Nt
open Nd

/-- Is q's best of dst better than p's? -/
def Bet (t : NT) (dst p q : Nat) : Prop := betB ((t.N q).bS dst) ((t.N q).bD dst) ((t.N p).bS dst) ((t.N p).bD dst) = true
theorem Bet.trans {t : NT} {dst p q r : Nat} (h : Bet t dst p q) (k : Bet t dst q r) : Bet t dst p r := by
  unfold Bet at *; rw [betB_iff] at *; omega
theorem Bet.irr {t : NT} {dst p : Nat} (h : Bet t dst p p) : False := by
  unfold Bet at h; rw [betB_iff] at h; omega
theorem hop_self {t : NT} {n dst : Nat} (h : Str t n) (hd : dst < 6) : hopT t dst dst = dst := by
  unfold hopT
  rw [Int.toNat_natCast, wayAt, if_pos ⟨by omega, by omega⟩, Int.toNat_natCast]
  have := (h.ok.run dst hd).own.h
  rw [h.ok.me dst hd] at this
  exact this
theorem hop_step {t : NT} {n dst p : Nat} (h : Str t n) (hd : dst < 6) (hp : p < 6) (hne : p ≠ dst) (hN : isN (hopT t dst p)) : ∃ f : Nat, f < 6 ∧ hopT t dst p = f ∧ 0 < t.C p f ∧ Bet t dst p f := by
  have e : hopT t dst p = (t.N p).wH dst := by
    unfold hopT
    rw [Int.toNat_natCast, wayAt, if_pos ⟨by omega, by omega⟩, Int.toNat_natCast]
    rfl
  rw [e] at hN ⊢
  have hm : dst ≠ (t.N p).me := by rw [h.ok.me p hp]; exact fun e => hne e.symm
  obtain ⟨f, a1, a2, a3, _, _, _, a7, _⟩ := ((h.nice p hp).bst.way dst hd hm).via (fun h => by unfold isN at hN; omega)
  rw [h.cost p f hp a1] at a3
  refine ⟨f, a1, a2, a3, ?_⟩
  have h1 := h.heard p f dst hp a1 hd
  unfold Bet
  rw [betB_no] at h1
  rw [betB_iff] at a7 ⊢
  omega
/-- Each is by a link, and better. -/
def Chain (t : NT) (dst : Nat) (l : List Int) : Prop := ∀ i, i + 1 < l.length → ∃ a b : Nat, a < 6 ∧ b < 6 ∧ a ≠ dst ∧ l.getD i 0 = a ∧ l.getD (i + 1) 0 = b ∧ 0 < t.C a b ∧ Bet t dst a b
theorem Chain.far {t : NT} {dst : Nat} {l : List Int} (h : Chain t dst l) : ∀ (d i : Nat), i + (d + 1) < l.length → ∃ a b : Nat, l.getD i 0 = a ∧ l.getD (i + (d + 1)) 0 = b ∧ Bet t dst a b
  | 0, i, hi => by
    obtain ⟨a, b, _, _, _, e1, e2, _, hb⟩ := h i hi
    exact ⟨a, b, e1, e2, hb⟩
  | d + 1, i, hi => by
    obtain ⟨a, b, e1, e2, hb⟩ := Chain.far h d i (by omega)
    obtain ⟨c, e, _, _, _, e3, e4, _, hc⟩ := h (i + (d + 1)) (by omega)
    rw [e2] at e3
    have : b = c := by omega
    subst this
    exact ⟨a, e, e1, e4, hb.trans hc⟩
theorem getD_left {l : List Int} {p : Int} {i : Nat} (h : i < l.length) : (l ++ [p]).getD i 0 = l.getD i 0 := by
  rw [List.getD_eq_getElem?_getD, List.getD_eq_getElem?_getD, List.getElem?_append_left h]
theorem getD_last {l : List Int} {p : Int} : (l ++ [p]).getD l.length 0 = p := by
  rw [List.getD_eq_getElem?_getD, List.getElem?_append_right (Nat.le_refl _), Nat.sub_self]; rfl
structure PathOk (t : NT) (dst : Nat) (r : List Int × Bool) : Prop where
  ok : r.2 = true
  lo : 0 < r.1.length
  hi : r.1.length ≤ 6
  ch : Chain t dst r.1
theorem pathF_ok {t : NT} {n dst : Nat} (h : Str t n) (hd : dst < 6) : ∀ (f : Nat) (out : List Int) (p : Int), out.length + f = 7 → out.Nodup → (∀ y ∈ out, isN y) → Chain t dst out →
    (out = [] → isN p) → (∀ k, out.length = k + 1 → ∃ l : Nat, l < 6 ∧ out.getD k 0 = l ∧ hopT t dst l = p) → PathOk t dst (pathF (hopT t dst) dst f out p)
  | 0, out, p, hf, hnd, hall, _, _, _ => by
    have := nodup_len 6 out hnd (fun y hy => hall y hy)
    omega
  | f + 1, out, p, hf, hnd, hall, hch, hemp, hlast => by
    have h6 := nodup_len 6 out hnd (fun y hy => hall y hy)
    rw [pathF]
    split
    · rename_i hp
      split
      · rename_i hm
        have hpos : 0 < out.length := List.length_pos_of_mem hm
        refine ⟨?_, hpos, h6, hch⟩
        obtain ⟨l, hl, e1, e2⟩ := hlast (out.length - 1) (by omega)
        by_cases hld : l = dst
        · subst hld
          rw [hop_self h hd] at e2
          show (p == (l : Int)) = true
          simp [e2]
        · exfalso
          obtain ⟨g, _, e3, _, hb⟩ := hop_step h hd hl hld (by rw [e2]; exact hp)
          obtain ⟨i, hi, e4⟩ := List.mem_iff_getElem.1 hm
          have e5 : out.getD i 0 = p := by simp [hi, e4]
          by_cases hie : i = out.length - 1
          · rw [hie, e1] at e5
            have : g = l := by omega
            subst this
            exact hb.irr
          · obtain ⟨a, b, e6, e7, hb2⟩ := hch.far (out.length - 1 - i - 1) i (by omega)
            rw [show i + (out.length - 1 - i - 1 + 1) = out.length - 1 from by omega, e1] at e7
            rw [e5] at e6
            have ha : a = g := by omega
            have hbl : b = l := by omega
            subst ha hbl
            exact (hb.trans hb2).irr
      · rename_i hm
        have hp' := hp
        obtain ⟨p0, p1⟩ := hp'
        obtain ⟨q, rfl⟩ := Int.eq_ofNat_of_zero_le p0
        refine pathF_ok h hd f (out ++ [(q : Int)]) _ (by simp; omega) ?_ ?_ ?_ (fun h => by simp at h) ?_
        · refine List.nodup_append.2 ⟨hnd, by simp, fun a ha b hb => ?_⟩
          simp at hb
          subst hb
          exact fun e => hm (e ▸ ha)
        · intro y hy
          rcases List.mem_append.1 hy with h | h
          · exact hall y h
          · simp at h; subst h; exact hp
        · intro i hi
          rw [List.length_append] at hi
          simp only [List.length_cons, List.length_nil] at hi
          by_cases hie : i + 1 < out.length
          · obtain ⟨a, b, e⟩ := hch i hie
            rw [← getD_left (p := (q : Int)) (show i < out.length by omega), ← getD_left (p := (q : Int)) hie] at e
            exact ⟨a, b, e⟩
          · have hil : out.length = i + 1 := by omega
            obtain ⟨l, hl, e1, e2⟩ := hlast i hil
            have hld : l ≠ dst := fun e => by
              subst e
              rw [hop_self h hd] at e2
              refine hm ?_
              rw [← e2, ← e1, List.getD_eq_getElem?_getD, List.getElem?_eq_getElem (by omega)]
              exact List.getElem_mem _
            obtain ⟨g, hg, e3, hc, hb⟩ := hop_step h hd hl hld (by rw [e2]; exact hp)
            have : g = q := by omega
            subst this
            exact ⟨l, g, hl, hg, hld, by rw [getD_left (by omega)]; exact e1, by rw [← hil]; exact getD_last, hc, hb⟩
        · intro k hk
          simp only [List.length_append, List.length_cons, List.length_nil] at hk
          obtain rfl : k = out.length := by omega
          exact ⟨q, by omega, getD_last, rfl⟩
    · rename_i hp
      have hpos : 0 < out.length := by
        cases out with
        | nil => exact absurd (hemp rfl) hp
        | cons a l => simp
      exact ⟨rfl, hpos, h6, hch⟩
theorem pathT_ok {t : NT} {n a dst : Nat} (h : Str t n) (ha : a < 6) (hd : dst < 6) : PathOk t dst (pathT t a dst) :=
  pathF_ok h hd 7 [] a rfl List.nodup_nil (fun y hy => by cases hy) (fun i hi => by simp at hi) (fun _ => ⟨by omega, by omega⟩) (fun k hk => by simp at hk)
end Go.Proofs.YteedndapbfihaaaGreat.Nt
/- Which route an address goes by. -/
namespace Go.Proofs.YteedndapbfihaaaGreat.Tb

theorem look_keep {a : Int} : ∀ (L : List Rt) (h : Int), (∀ r ∈ L, ¬ has r.p a) → L.foldl (lookF a) h = h
  | [], _, _ => rfl
  | r :: L, h, k => by
    rw [List.foldl_cons]
    have : lookF a h r = h := by unfold lookF; rw [if_neg (k r (List.mem_cons_self ..))]
    rw [this]
    exact look_keep L h (fun s hs => k s (List.mem_cons_of_mem _ hs))
end Go.Proofs.YteedndapbfihaaaGreat.Tb
/- A route set, and what it says of addresses; set and taken away. -/
namespace Go.Proofs.YteedndapbfihaaaGreat.Tb

theorem look_any {a : Int} : ∀ (B : List Rt) (h k : Int), (∃ s ∈ B, has s.p a) → B.foldl (lookF a) h = B.foldl (lookF a) k
  | [], _, _, e => by obtain ⟨s, hs, _⟩ := e; cases hs
  | r :: B, h, k, e => by
    rw [List.foldl_cons, List.foldl_cons]
    by_cases hr : has r.p a
    · have e1 : ∀ x, lookF a x r = r.hop := fun x => by unfold lookF; rw [if_pos hr]
      rw [e1, e1]
    · have e1 : ∀ x, lookF a x r = x := fun x => by unfold lookF; rw [if_neg hr]
      rw [e1, e1]
      refine look_any B h k ?_
      obtain ⟨s, hs, h1⟩ := e
      rcases List.mem_cons.1 hs with rfl | hs
      · exact absurd h1 hr
      · exact ⟨s, hs, h1⟩
/-- Whether a longer route than the prefix has the address. -/
def longer (L : List Rt) (p : Pf) (a : Int) : Prop := ∃ k, k < L.length ∧ has (nth L k).p a ∧ p.len < (nth L k).p.len
end Go.Proofs.YteedndapbfihaaaGreat.Tb
