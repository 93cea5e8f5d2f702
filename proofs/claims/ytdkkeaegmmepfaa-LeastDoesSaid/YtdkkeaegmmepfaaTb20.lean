/- Walks: (*Table).Set, where it sets a new route. -/
import Derived.Test.YtdkkeaegmmepfaaTb19
namespace Go.Proofs.Ytdkkeaegmmepfaa
open Go.RowKit Go.Deep

theorem wpAnyH_name {P : Program} {md : Region.Mode} {ops : Array Oper} {Q : Exit → Act → World → Prop} {S : World → Prop} {fuel : Nat} {listed : Array Bool} {a : Act} {W : World} (h : ∀ w1, w1 = W → wpAnyH P md ops Q S fuel listed a w1) : wpAnyH P md ops Q S fuel listed a W := h W rfl
theorem new_row3 (w : World) (r : Tb.Rt) : (w.alloc (.cells #[.int .i64 r.p.len, .int .i64 r.p.bits, .int .i64 r.hop] 33)).rowIs w.heap.size 33 3 (rtV r) := by
  refine World.rowIs_alloc w #[.int .i64 r.p.len, .int .i64 r.p.bits, .int .i64 r.hop] 33 (rtV r) (fun i hi => ?_)
  match i, hi with
  | 0, _ => rfl
  | 1, _ => rfl
  | 2, _ => rfl
set_option maxRecDepth 100000 in
set_option maxHeartbeats 4000000 in
theorem Set_new (t : Nat) (v : Value) (L : List Tb.Rt) (l b hop : Int) (w : World) (hl : L.length ≤ 40) (hw : Tb.Wf L) (h : TAt w t v L) (hok : Tb.ok ⟨l, b⟩) (hg : Tb.get L ⟨l, b⟩ = -2) (h2 : hop ≠ -2) (hho : Tb.hopOK hop) (h40 : L.length < 40) :
    Calls Try.prog 13 #[.pointer (some ⟨t, 0, none⟩), .agg #[.int .i64 l, .int .i64 b], .int .i64 hop] w (SetOk t v (Tb.setOk L ⟨l, b⟩ hop) w) := by
  obtain ⟨e1, e2⟩ := Tb.notfound_split hw hok hg
  have hil : (Tb.lo L ⟨l, b⟩).length ≤ L.length := Tb.lo_le _ _
  have hlt := World.rowIs.lt h.row
  have hvl : ∀ g, v.ownBlock = some g → g < w.heap.size := fun g hg => (World.ownsRow.lt h.sl g hg).2
  obtain ⟨a, c, hva, ha, _, hcell⟩ := h.shape
  have HA := Lib.hid ha; clear ha; have HW := Lib.hid hw; clear hw; have HLL := Lib.hid hl; clear hl; have HC := Lib.hid hcell; clear hcell; have H := Lib.hid h; clear h; have HVL := Lib.hid hvl; clear hvl
  have hdg := decide_eq_false (show ¬ Tb.get L ⟨l, b⟩ ≠ -2 from fun h => h hg)
  have hd := decide_eq_true hok
  have hd2 := decide_eq_true hho
  have hb : (hop == -2) = false := by simpa using h2
  have hb2 : (hop != -2) = true := by simpa using h2
  have hb40 : ((L.length : Int) == 40) = false := by simp; omega
  have hL : Tb.setOk L ⟨l, b⟩ hop = L.take (Tb.lo L ⟨l, b⟩).length ++ ⟨⟨l, b⟩, hop⟩ :: L.drop (Tb.lo L ⟨l, b⟩).length := by
    unfold Tb.setOk Tb.mid
    rw [if_neg h2, ← e1, ← e2, List.append_assoc]
    rfl
  rw [hL]
  clear e1 e2 hL
  generalize hi : (Tb.lo L ⟨l, b⟩).length = i at *
  have HI := Lib.hid hi; clear hi
  have hl40 : (L.length : Int) ≤ 40 := by omega
  have HD := Lib.hid hd; clear hd; have HOK := Lib.hid hok; clear hok; have HDG := Lib.hid hdg; clear hdg; have HD2 := Lib.hid hd2; clear hd2; have HHO := Lib.hid hho; clear hho; have HIL := Lib.hid hil; clear hil; have HVA := Lib.hid hva; clear hva
  clear hg h2 h40
  go_enter Try.func13, Try.ntmps13
  go_upto_region 1 with fail
  refine wp_name fun w1 hw1 => ?_
  have c0 : w1.cell? ⟨w.heap.size, 0, none⟩ = some (.int .i64 l) := by rw [hw1]; simp
  have c1 : w1.cell? ⟨w.heap.size, 1, none⟩ = some (.int .i64 b) := by rw [hw1]; simp
  have hF : Fr NoB w w1 := by rw [hw1]; (repeat (first | exact Fr.refl _ _ | refine Fr.alloc ?_ _ | refine Fr.setNew ?_ (by omega) _ _ | refine Fr.drewN ?_ _ | refine Fr.drew ?_))
  have hc := cell_fr' hF HC.out (fun h => h)
  clear hw1
  have HF0 := Lib.hid hF; clear hF
  go_wp2_with fail
  refine (at_any t a c L l b _ (by have := HLL.out; omega) HW.out (HA.out.keep0 HF0.out) hc).mono ?_
  unfold AtPost
  rw [HDG.out, HI.out]
  rintro e w2 ⟨rfl, hf⟩
  have c0 := cell_fr' hf c0 (fun h => h)
  have c1 := cell_fr' hf c1 (fun h => h)
  have hc := cell_fr' hf hc (fun h => h)
  have HF1 := Lib.hid (HF0.out.trans hf)
  clear hf HF0
  go_wp2_with fail
  refine (Check_any l b _).mono ?_
  rw [HD.out]
  rintro e w3 ⟨rfl, hf⟩
  have c0 := cell_fr' hf c0 (fun h => h)
  have c1 := cell_fr' hf c1 (fun h => h)
  have hc := cell_fr' hf hc (fun h => h)
  have HF2 := Lib.hid (HF1.out.trans hf)
  clear hf HF1
  go_wp2_with fail
  refine (Hop_any hop _).mono ?_
  rw [HD2.out]
  rintro e w4 ⟨rfl, rfl⟩
  have hT := H.out.keep0 HF2.out
  have hgrow := HF2.out.size
  have hbs : w.heap.size < w3.heap.size := World.block_lt_of_cell? w3 _ c0
  have hv0 : ∀ q, w.heap.size ≤ q → v.ownBlock ≠ some q := fun q hq e => by have := HVL.out q e; omega
  have hkey : ∀ (W w5 : World) (v' : Value), Fr NoB w3 W → SlR w5 0 v' (L.take i ++ ⟨⟨l, b⟩, hop⟩ :: L.drop i) → Fr (fun k => v.ownBlock = some k) W w5 → (∀ g, v'.ownBlock = some g → v.ownBlock = some g ∨ W.heap.size ≤ g) →
      w5.cell? ⟨t, 0, none⟩ = some (.slice a L.length c) ∧ w5.frozen? ⟨t, 0, none⟩ = false ∧ Hid (SetOk t v (L.take i ++ ⟨⟨l, b⟩, hop⟩ :: L.drop i) w (.returned (.int .i64 0)) (w5.setCell ⟨t, 0, none⟩ v')) := by
    intro W w5 v' hW hv hf hob
    have hTW := hT.keep0 hW
    have hn' : v'.ownBlock ≠ some t := fun e => by
      rcases hob t e with h | h
      · exact H.out.ne h
      · have := hW.size
        omega
    refine ⟨cell_fr' hf (cell_fr' hW hc (fun h => h)) (fun e => H.out.ne e), World.rowIs.frozen (hf.row hTW.row (fun e => H.out.ne e)) 0, rfl, v', hTW.store hv hf hn', ?_, ?_⟩
    · exact ((((HF2.out.trans hW).mono (fun _ _ h => h.elim)).trans (hf.mono (fun _ _ h => .inr h))).setCell (p := ⟨t, 0, none⟩) (.inl (.inl rfl)) _)
    · intro g' hg'
      rcases hob g' hg' with h | h
      · exact .inl h
      · have := hW.size
        exact .inr (by omega)
  have HV0 := Lib.hid hv0
  have HL1 : Hid (L.length ≤ 1000) := by have := HLL.out; show L.length ≤ 1000; omega
  have HKEY := Lib.hid hkey
  have HT := Lib.hid hT
  clear hv0 hkey hT
  obtain rfl := HVA.out
  go_upto_region 10 with fail
  (refine wp_region_held_drew (S := (fun W => W.cell? ⟨w.heap.size, 0, none⟩ = some (.int .i64 l) ∧ W.cell? ⟨w.heap.size, 1, none⟩ = some (.int .i64 b))) (by kernel_rfl) ⟨c0, c1⟩ (fun hHeld => ?_))
  (refine wpAnyH_take (i := 0) (v := ?_) (by simp only [List.getElem?_toArray, List.getElem?_cons_zero]; rfl) (by kernel_rfl) (by kernel_rfl) (by kernel_rfl) (by exact fun _ _ _ h => h) (Or.inl ⟨by rfl, ?_⟩) hHeld ?_; rotate_left; (focus (intro w hSw; (try dsimp only at hSw); go_simp; all_goals with_reducible rfl)); (try simp only [Act.put, List.setIfInBounds_toArray, List.set_cons_zero, List.set_cons_succ])); (refine wpAnyH_take (i := 1) (v := ?_) (by simp only [List.getElem?_toArray, List.getElem?_cons_succ, List.getElem?_cons_zero]; rfl) (by kernel_rfl) (by kernel_rfl) (by kernel_rfl) (by exact fun _ _ _ h => h) (Or.inl ⟨by rfl, ?_⟩) hHeld ?_; rotate_left; (focus (intro w hSw; (try dsimp only at hSw); go_simp; all_goals with_reducible rfl)); (try simp only [Act.put, List.setIfInBounds_toArray, List.set_cons_zero, List.set_cons_succ])); (refine wpAnyH_take (i := 2) (v := ?_) (by simp only [List.getElem?_toArray, List.getElem?_cons_succ, List.getElem?_cons_zero]; rfl) (by kernel_rfl) (by kernel_rfl) (by kernel_rfl) (by exact fun _ _ _ h => h) (Or.inl ⟨by rfl, ?_⟩) hHeld ?_; rotate_left; (focus (intro w hSw; (try dsimp only at hSw); go_simp; all_goals with_reducible rfl)); (try simp only [Act.put, List.setIfInBounds_toArray, List.set_cons_zero, List.set_cons_succ])); (refine wpAnyH_take (i := 3) (v := ?_) (by simp only [List.getElem?_toArray, List.getElem?_cons_succ, List.getElem?_cons_zero]; rfl) (by kernel_rfl) (by kernel_rfl) (by kernel_rfl) (by exact fun _ _ _ h => h) (Or.inl ⟨by rfl, ?_⟩) hHeld ?_; rotate_left; (focus (intro w hSw; (try dsimp only at hSw); go_simp; all_goals with_reducible rfl)); (try simp only [Act.put, List.setIfInBounds_toArray, List.set_cons_zero, List.set_cons_succ])); (refine wpAnyH_take (i := 5) (v := ?_) (by simp only [List.getElem?_toArray, List.getElem?_cons_succ, List.getElem?_cons_zero]; rfl) (by kernel_rfl) (by kernel_rfl) (by kernel_rfl) (by exact fun _ _ _ h => h) (Or.inl ⟨by rfl, ?_⟩) hHeld ?_; rotate_left; (focus (intro w hSw; (try dsimp only at hSw); go_simp; all_goals with_reducible rfl)); (try simp only [Act.put, List.setIfInBounds_toArray, List.set_cons_zero, List.set_cons_succ])); (refine wpAnyH_take (i := 6) (v := ?_) (by simp only [List.getElem?_toArray, List.getElem?_cons_succ, List.getElem?_cons_zero]; rfl) (by kernel_rfl) (by kernel_rfl) (by kernel_rfl) (by exact fun _ _ _ h => h) (Or.inl ⟨by rfl, ?_⟩) hHeld ?_; rotate_left; (focus (intro w hSw; (try dsimp only at hSw); go_simp; all_goals with_reducible rfl)); (try simp only [Act.put, List.setIfInBounds_toArray, List.set_cons_zero, List.set_cons_succ])); (refine wpAnyH_take (i := 7) (v := ?_) (by simp only [List.getElem?_toArray, List.getElem?_cons_succ, List.getElem?_cons_zero]; rfl) (by kernel_rfl) (by kernel_rfl) (by kernel_rfl) (by exact fun _ _ _ h => h) (Or.inl ⟨by rfl, ?_⟩) hHeld ?_; rotate_left; (focus (intro w hSw; (try dsimp only at hSw); go_simp; all_goals with_reducible rfl)); (try simp only [Act.put, List.setIfInBounds_toArray, List.set_cons_zero, List.set_cons_succ])); (refine wpAnyH_take (i := 8) (v := ?_) (by simp only [List.getElem?_toArray, List.getElem?_cons_succ, List.getElem?_cons_zero]; rfl) (by kernel_rfl) (by kernel_rfl) (by kernel_rfl) (by exact fun _ _ _ h => h) (Or.inl ⟨by rfl, ?_⟩) hHeld ?_; rotate_left; (focus (intro w hSw; (try dsimp only at hSw); go_simp; all_goals with_reducible rfl)); (try simp only [Act.put, List.setIfInBounds_toArray, List.set_cons_zero, List.set_cons_succ]))
  refine wpAnyH_ready (rs := [4, 9]) (by kernel_rfl) (by simp) ?_
  refine AllReadyH.cons (by simp only [List.getElem?_toArray, List.getElem?_cons_succ, List.getElem?_cons_zero]; rfl) (fun K hK => ?_) (AllReadyH.cons (by simp only [List.getElem?_toArray, List.getElem?_cons_succ, List.getElem?_cons_zero]; rfl) (fun K hK => ?_) AllReadyH.nil)
  · go_simp
    (try go_wp2_with fail)
    refine hK.out _ _ ⟨c0, c1⟩ (fun hHeld => ?_)
    clear hK K
    (try simp only [Act.put, List.setIfInBounds_toArray, List.set_cons_zero, List.set_cons_succ])
    (refine wpAnyH_ready (rs := [9]) (by kernel_rfl) (by simp) ?_; refine AllReadyH.cons (by simp only [List.getElem?_toArray, List.getElem?_cons_succ, List.getElem?_cons_zero]; rfl) (fun K hK => ?_) AllReadyH.nil; go_simp); (skip); (try go_wp2_with fail); (refine hK.out _ _ ⟨cell_alloc c0 _, cell_alloc c1 _⟩ (fun hHeld => ?_)); clear hK K; (try simp only [Act.put, List.setIfInBounds_toArray, List.set_cons_zero, List.set_cons_succ])
    refine wpAnyH_name fun w4 hw4 => ?_
    rw [← hw4] at hHeld
    have hF : Fr NoB w3 w4 := by rw [hw4]; exact (Fr.refl _ _).drew.alloc _
    have hrow : w4.rowIs w3.heap.size 33 3 (rtV ⟨⟨l, b⟩, hop⟩) := by rw [hw4]; exact new_row3 _ ⟨⟨l, b⟩, hop⟩
    clear hw4
    have q0 := cell_fr' hF c0 (fun h => h)
    have q1 := cell_fr' hF c1 (fun h => h)
    have hc4 := cell_fr' hF hc (fun h => h)
    have HT4 := Lib.hid (HT.out.keep0 hF)
    have HRow := Lib.hid hrow
    have HF4 := Lib.hid hF
    clear hrow hF
    (refine wpAnyH_ready (rs := [10]) (by kernel_rfl) (by simp) ?_; refine AllReadyH.cons (by simp only [List.getElem?_toArray, List.getElem?_cons_succ, List.getElem?_cons_zero]; rfl) (fun K hK => ?_) AllReadyH.nil; go_simp); (refine (Insert_any (.slice a L.length c) L i ⟨⟨l, b⟩, hop⟩ w3.heap.size _ HL1.out HIL.out HT4.out.sl HRow.out (HV0.out _ hgrow)).mono ?_; rintro e w5 ⟨v', rfl, hv, hf, hob⟩; obtain ⟨a', c', rfl, _⟩ := hv.shape; generalize (L.take i ++ (⟨⟨l, b⟩, hop⟩ : Tb.Rt) :: L.drop i).length = n' at *; obtain ⟨y0, y1, hs⟩ := HKEY.out _ w5 _ HF4.out hv hf hob; have x0 := cell_fr' hf q0 (fun e => HV0.out _ (Nat.le_refl _) e); have x1 := cell_fr' hf q1 (fun e => HV0.out _ (Nat.le_refl _) e); clear hv hf hob); (try go_wp2_with fail); (refine hK.out _ _ ⟨x0, x1⟩ (fun hHeld => ?_)); clear hK K; (try simp only [Act.put, List.setIfInBounds_toArray, List.set_cons_zero, List.set_cons_succ])
    (refine wpAnyH_take (i := 11) (v := ?_) (by simp only [List.getElem?_toArray, List.getElem?_cons_succ, List.getElem?_cons_zero]; rfl) (by kernel_rfl) (by kernel_rfl) (by kernel_rfl) (by exact fun _ _ _ h => h) (Or.inl ⟨by rfl, ?_⟩) hHeld ?_; rotate_left; (focus (intro w hSw; (try dsimp only at hSw); go_simp; all_goals with_reducible rfl)); (try simp only [Act.put, List.setIfInBounds_toArray, List.set_cons_zero, List.set_cons_succ])); (refine wpAnyH_take (i := 12) (v := ?_) (by simp only [List.getElem?_toArray, List.getElem?_cons_succ, List.getElem?_cons_zero]; rfl) (by kernel_rfl) (by kernel_rfl) (by kernel_rfl) (by exact fun _ _ _ h => h) (Or.inl ⟨by rfl, ?_⟩) hHeld ?_; rotate_left; (focus (intro w hSw; (try dsimp only at hSw); go_simp; all_goals with_reducible rfl)); (try simp only [Act.put, List.setIfInBounds_toArray, List.set_cons_zero, List.set_cons_succ]))
    (refine wpAnyH_ready (rs := [13]) (by kernel_rfl) (by simp) ?_; refine AllReadyH.cons (by simp only [List.getElem?_toArray, List.getElem?_cons_succ, List.getElem?_cons_zero]; rfl) (fun K hK => ?_) AllReadyH.nil; go_simp); (skip); (try go_wp2_with fail); (refine hK.out _ _ ⟨cell_set x0 (Nat.ne_of_gt hlt), cell_set x1 (Nat.ne_of_gt hlt)⟩ (fun hHeld => ?_)); clear hK K; (try simp only [Act.put, List.setIfInBounds_toArray, List.set_cons_zero, List.set_cons_succ])
    (refine wpAnyH_done (by kernel_rfl) ?_ _)
    go_wp2
    go_ret
    exact hs.out
  · go_simp
    (try go_wp2_with fail)
    refine hK.out _ _ ⟨cell_alloc c0 _, cell_alloc c1 _⟩ (fun hHeld => ?_)
    clear hK K
    (try simp only [Act.put, List.setIfInBounds_toArray, List.set_cons_zero, List.set_cons_succ])
    refine wpAnyH_name fun w4 hw4 => ?_
    rw [← hw4] at hHeld
    have hF : Fr NoB w3 w4 := by rw [hw4]; exact (Fr.refl _ _).drew.alloc _
    have hrow : w4.rowIs w3.heap.size 33 3 (rtV ⟨⟨l, b⟩, hop⟩) := by rw [hw4]; exact new_row3 _ ⟨⟨l, b⟩, hop⟩
    clear hw4
    have q0 := cell_fr' hF c0 (fun h => h)
    have q1 := cell_fr' hF c1 (fun h => h)
    have hc4 := cell_fr' hF hc (fun h => h)
    have HT4 := Lib.hid (HT.out.keep0 hF)
    have HRow := Lib.hid hrow
    have HF4 := Lib.hid hF
    clear hrow hF
    (refine wpAnyH_ready (rs := [4]) (by kernel_rfl) (by simp) ?_; refine AllReadyH.cons (by simp only [List.getElem?_toArray, List.getElem?_cons_succ, List.getElem?_cons_zero]; rfl) (fun K hK => ?_) AllReadyH.nil; go_simp); (skip); (try go_wp2_with fail); (refine hK.out _ _ ⟨q0, q1⟩ (fun hHeld => ?_)); clear hK K; (try simp only [Act.put, List.setIfInBounds_toArray, List.set_cons_zero, List.set_cons_succ])
    (refine wpAnyH_ready (rs := [10]) (by kernel_rfl) (by simp) ?_; refine AllReadyH.cons (by simp only [List.getElem?_toArray, List.getElem?_cons_succ, List.getElem?_cons_zero]; rfl) (fun K hK => ?_) AllReadyH.nil; go_simp); (refine (Insert_any (.slice a L.length c) L i ⟨⟨l, b⟩, hop⟩ w3.heap.size _ HL1.out HIL.out HT4.out.sl HRow.out (HV0.out _ hgrow)).mono ?_; rintro e w5 ⟨v', rfl, hv, hf, hob⟩; obtain ⟨a', c', rfl, _⟩ := hv.shape; generalize (L.take i ++ (⟨⟨l, b⟩, hop⟩ : Tb.Rt) :: L.drop i).length = n' at *; obtain ⟨y0, y1, hs⟩ := HKEY.out _ w5 _ HF4.out hv hf hob; have x0 := cell_fr' hf q0 (fun e => HV0.out _ (Nat.le_refl _) e); have x1 := cell_fr' hf q1 (fun e => HV0.out _ (Nat.le_refl _) e); clear hv hf hob); (try go_wp2_with fail); (refine hK.out _ _ ⟨x0, x1⟩ (fun hHeld => ?_)); clear hK K; (try simp only [Act.put, List.setIfInBounds_toArray, List.set_cons_zero, List.set_cons_succ])
    (refine wpAnyH_take (i := 11) (v := ?_) (by simp only [List.getElem?_toArray, List.getElem?_cons_succ, List.getElem?_cons_zero]; rfl) (by kernel_rfl) (by kernel_rfl) (by kernel_rfl) (by exact fun _ _ _ h => h) (Or.inl ⟨by rfl, ?_⟩) hHeld ?_; rotate_left; (focus (intro w hSw; (try dsimp only at hSw); go_simp; all_goals with_reducible rfl)); (try simp only [Act.put, List.setIfInBounds_toArray, List.set_cons_zero, List.set_cons_succ])); (refine wpAnyH_take (i := 12) (v := ?_) (by simp only [List.getElem?_toArray, List.getElem?_cons_succ, List.getElem?_cons_zero]; rfl) (by kernel_rfl) (by kernel_rfl) (by kernel_rfl) (by exact fun _ _ _ h => h) (Or.inl ⟨by rfl, ?_⟩) hHeld ?_; rotate_left; (focus (intro w hSw; (try dsimp only at hSw); go_simp; all_goals with_reducible rfl)); (try simp only [Act.put, List.setIfInBounds_toArray, List.set_cons_zero, List.set_cons_succ]))
    (refine wpAnyH_ready (rs := [13]) (by kernel_rfl) (by simp) ?_; refine AllReadyH.cons (by simp only [List.getElem?_toArray, List.getElem?_cons_succ, List.getElem?_cons_zero]; rfl) (fun K hK => ?_) AllReadyH.nil; go_simp); (skip); (try go_wp2_with fail); (refine hK.out _ _ ⟨cell_set x0 (Nat.ne_of_gt hlt), cell_set x1 (Nat.ne_of_gt hlt)⟩ (fun hHeld => ?_)); clear hK K; (try simp only [Act.put, List.setIfInBounds_toArray, List.set_cons_zero, List.set_cons_succ])
    (refine wpAnyH_done (by kernel_rfl) ?_ _)
    go_wp2
    go_ret
    exact hs.out
end Go.Proofs.Ytdkkeaegmmepfaa
