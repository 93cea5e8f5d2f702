/- Walks over the reference's town: Do: double. -/
import Derived.Test.YteedndapbfihaaaGreatB16
import Derived.Test.YteedndapbfihaaaGreatB11
import Derived.Test.YteedndapbfihaaaGreatB8
import Derived.Test.YteedndapbfihaaaGreatB3
namespace Go.Proofs.YteedndapbfihaaaGreat
open Go.RowKit Go.Deep

set_option maxRecDepth 100000 in
set_option maxHeartbeats 8000000 in
theorem TDo_dbl (y : TIds) (u : Value) (t : Nt.NT) (a b n pl pb : Int) (m : Nat) (w : World) (hr : Nt.NOk t m) (h : TnAt w y u t) : TDoSaid y u t 6 a b n pl pb w := by
  have e : Nt.doT t 6 a b n = Nt.dblT t n := rfl
  unfold TDoSaid step6
  rw [e]
  clear e
  have hf1 : ∀ o, Fr NoB w (w.alloc o) := fun o => (Fr.refl _ _).alloc _
  have hb := h.lt (.inl rfl)
  have c42 := h.c42
  obtain ⟨av, cv, rfl, j1, j2, j3, hncv, hcvm, j4⟩ := ownsRow_rd h.news
  clear j1 j2 j3 j4
  by_cases ho : Nt.out t n
  · have e : Nt.dblT t n = (t, 6) := by rw [Nt.dblT, if_pos ho]
    rw [e]
    clear e hncv hcvm
    unfold Nt.out at ho
    by_cases h0 : n < 0
    · have hb0 : decide (n < 0) = true := by simpa using h0
      clear ho h0
      have H := Lib.hid h; clear h; have HR := Lib.hid hr; clear hr; have HF1 := Lib.hid hf1; clear hf1
      go_enter Tryz.func42, Tryz.ntmps42
      go_wp2_with fail
      go_quiet (fail)
      go_wp2
      go_ret
      exact TnDo.none ((H.out.keep0 (HF1.out _)).drewN _) (((HF1.out _).mono (fun _ _ h => h.elim)).drewN _)
    · have hb0 : decide (n < 0) = false := by simpa using h0
      have hb1 : decide ((t.news.length : Int) ≤ n) = true := by simp; omega
      clear ho h0
      have H := Lib.hid h; clear h; have HR := Lib.hid hr; clear hr; have HF1 := Lib.hid hf1; clear hf1
      go_enter Tryz.func42, Tryz.ntmps42
      go_wp2_with fail
      go_quiet (fail)
      go_wp2
      go_ret
      exact TnDo.none ((H.out.keep0 (HF1.out _)).drewN _) (((HF1.out _).mono (fun _ _ h => h.elim)).drewN _)
  · have ho0 := ho
    have hk := Nt.out_no ho
    obtain ⟨k, rfl⟩ := Int.eq_ofNat_of_zero_le (a := n) (by unfold Nt.out at ho; omega)
    rw [Int.toNat_natCast] at hk
    have hb0 : decide ((k : Int) < 0) = false := by simp
    have hb1 : decide ((t.news.length : Int) ≤ k) = false := by simp; omega
    obtain ⟨R, hR⟩ : ∃ R, Nt.dblT t k = R := ⟨_, rfl⟩
    rw [hR]
    rw [Nt.dblT, if_neg ho0, Int.toNat_natCast] at hR
    have HRR := Lib.hid hR
    clear hR ho ho0
    obtain ⟨g, rfl, d0, d1, d2, d3, d4⟩ := news_cells h.news hk
    have hki : (k : Int) < (t.news.length : Int) := by omega
    have hnw : nwGet t.news k = Nt.nwAt t k := rfl
    rw [hnw] at d0 d1 d2 d3 d4
    have hob : (Value.slice (some ⟨g, 0, none⟩) t.news.length cv).ownBlock = some g := rfl
    have hgl := h.lt (.inr (.inr hob))
    have hl40 := hr.len
    have hgn := hr.g _ (Nt.nwAt_mem hk)
    clear hnw hob
    have H := Lib.hid h; clear h; have HR := Lib.hid hr; clear hr; have HF1 := Lib.hid hf1; clear hf1; have HL := Lib.hid hl40; clear hl40; have HNC := Lib.hid hncv; clear hncv; have HCM := Lib.hid hcvm; clear hcvm; have HGN := Lib.hid hgn; clear hgn
    go_enter Tryz.func42, Tryz.ntmps42
    go_wp2_with fail
    go_quiet (fail)
    go_wp2_with fail
    refine wp_name fun w1 hw1 => ?_
    have hfa : Fr NoB w w1 := by rw [hw1]; exact (HF1.out _).drewN _
    have e0 : w1.cell? ⟨w.heap.size, 0, none⟩ = some (.int .i64 6) := by rw [hw1]; simp
    have e3 : w1.cell? ⟨w.heap.size, 3, none⟩ = some (.int .i64 k) := by rw [hw1]; simp
    have hpzl := World.block_lt_of_cell? w1 _ e0
    have h1 := H.out.keep0 hfa
    have c42 := cell_fr hfa c42 (fun h => h)
    have d0 := cell_fr hfa d0 (fun h => h)
    have d1 := cell_fr hfa d1 (fun h => h)
    have d2 := cell_fr hfa d2 (fun h => h)
    have d3 := cell_fr hfa d3 (fun h => h)
    have d4 := cell_fr hfa d4 (fun h => h)
    have hpb : w.heap.size ≠ y.b := by omega
    have hpn : ∀ i, FtT y (.slice (some ⟨g, 0, none⟩) t.news.length cv) i → ¬ w.heap.size = i := fun i hi e => by have := H.out.lt hi; omega
    clear hw1 hgl hb H HF1
    generalize hpz : w.heap.size = pz at *
    have HPZ := Lib.hid hpz; clear hpz
    have H := Lib.hid h1; clear h1; have HF := Lib.hid hfa; clear hfa; have HPB := Lib.hid hpb; clear hpb; have HPN := Lib.hid hpn; clear hpn
    generalize Nt.nwAt t k = x at *
    obtain ⟨x1, x2, x3, x4, x5⟩ := x
    dsimp only at d0 d1 d2 d3 d4 hpzl
    have hybl : y.b < w1.heap.size := H.out.lt (.inl rfl)
    have hgl1 : g < w1.heap.size := World.block_lt_of_cell? w1 _ d0
    go_cut [8] (fun s wx => CutY w1 x1 x2 x3 x4 x5 s wx)
    case first =>
      go_region
      all_goals (go_wp2_with fail; go_meet; exact ⟨rfl, ((Fr.refl _ _).drew).alloc _, by simp, by simp, by simp, by simp, by simp⟩)
    case rest =>
     obtain ⟨rfl, hfa, y0, y1, y2, y3, y4⟩ := hcut
     obtain ⟨w2, rfl⟩ : ∃ w2 : World, w2 = wc := ⟨_, rfl⟩
     have h2 := H.out.keep0 hfa
     have hf2 := HF.out.trans hfa
     have c42 := cell_fr hfa c42 (fun h => h)
     have e0 := cell_fr hfa e0 (fun h => h)
     have e3 := cell_fr hfa e3 (fun h => h)
     have f42 := h2.fz 42
     have hp8 : ∀ i, FtT y (.slice (some ⟨g, 0, none⟩) t.news.length cv) i → ¬ w1.heap.size = i := fun i hi e => by have := H.out.lt hi; omega
     clear hfa H HF d0 d1 d2 d3 d4 hpzl hybl hgl1
     generalize w1.heap.size = p8 at *
     have H := Lib.hid h2; clear h2; have HF := Lib.hid hf2; clear hf2; have HP8 := Lib.hid hp8; clear hp8
     by_cases hl : t.news.length = 40
     · have hR := HRR.out
       rw [if_pos hl] at hR
       subst hR
       clear HRR
       have hlb : decide ((40 : Int) ≤ (t.news.length : Int)) = true := by simp; omega
       clear hl
       go_wp2
       go_ret
       exact TnDo.none H.out (HF.out.mono (fun _ _ h => h.elim))
     · have hR := HRR.out
       rw [if_neg hl] at hR
       subst hR
       clear HRR
       have hlb : decide ((40 : Int) ≤ (t.news.length : Int)) = false := by have := HL.out; simp; omega
       have hl40' : t.news.length < 40 := by have := HL.out; omega
       have hyb2 : y.b < w2.heap.size := H.out.lt (.inl rfl)
       have hp82 : p8 < w2.heap.size := World.block_lt_of_cell? w2 _ y0
       go_wp2_with fail
       have key1 : ∀ (j : Nat) (v : Value), ((nwI t.news).map (Value.int .i64))[j]? = some v → w2.cell? ((⟨g, 0, none⟩ : Addr).add j) = some v := fun j v hv => news_rd H.out.news j v g rfl hv
       have keyS : ∀ W : World, Fr NoB w2 W → (W.cell? ⟨y.b, 42, none⟩).isSome = true ∧ W.frozen? ⟨y.b, 42, none⟩ = false ∧ W.cell? ⟨p8, 0, none⟩ = some (.int .i64 x1) ∧ W.cell? ⟨p8, 1, none⟩ = some (.int .i64 x2) ∧ W.cell? ⟨p8, 2, none⟩ = some (.int .i64 x3) ∧ W.cell? ⟨p8, 3, none⟩ = some (.int .i64 x4) ∧ W.cell? ⟨p8, 4, none⟩ = some (.int .i64 x5) := fun W hW =>
         ⟨congrArg Option.isSome (cell_fr hW c42 (fun h => h)), (H.out.keep0 hW).fz 42, cell_fr hW y0 (fun h => h), cell_fr hW y1 (fun h => h), cell_fr hW y2 (fun h => h), cell_fr hW y3 (fun h => h), cell_fr hW y4 (fun h => h)⟩
       have keyT : ∀ W : World, Fr NoB w2 W → ∀ v : Value, ((W.setCell ⟨y.b, 42, none⟩ v).cell? ⟨y.b, 42, none⟩).isSome = true ∧ (W.setCell ⟨y.b, 42, none⟩ v).frozen? ⟨y.b, 42, none⟩ = false ∧ (W.setCell ⟨y.b, 42, none⟩ v).cell? ⟨p8, 0, none⟩ = some (.int .i64 x1) ∧ (W.setCell ⟨y.b, 42, none⟩ v).cell? ⟨p8, 1, none⟩ = some (.int .i64 x2) ∧ (W.setCell ⟨y.b, 42, none⟩ v).cell? ⟨p8, 2, none⟩ = some (.int .i64 x3) ∧ (W.setCell ⟨y.b, 42, none⟩ v).cell? ⟨p8, 3, none⟩ = some (.int .i64 x4) ∧ (W.setCell ⟨y.b, 42, none⟩ v).cell? ⟨p8, 4, none⟩ = some (.int .i64 x5) := fun W hW v =>
         ⟨congrArg Option.isSome (World.cell?_setCell_same' _ _ _ (keyS W hW).1), World.rowIs.frozen (World.rowIs.set (H.out.keep0 hW).row 42 _) _,
          (World.cell?_setCell_far _ _ _ _ (fun e => HP8.out y.b (.inl rfl) e.symm)).trans (keyS W hW).2.2.1, (World.cell?_setCell_far _ _ _ _ (fun e => HP8.out y.b (.inl rfl) e.symm)).trans (keyS W hW).2.2.2.1, (World.cell?_setCell_far _ _ _ _ (fun e => HP8.out y.b (.inl rfl) e.symm)).trans (keyS W hW).2.2.2.2.1, (World.cell?_setCell_far _ _ _ _ (fun e => HP8.out y.b (.inl rfl) e.symm)).trans (keyS W hW).2.2.2.2.2.1, (World.cell?_setCell_far _ _ _ _ (fun e => HP8.out y.b (.inl rfl) e.symm)).trans (keyS W hW).2.2.2.2.2.2⟩
       have key3 : ∀ (v2 : Value) (w4 : World), Fr NoB w2 w4 → w4.ownsRow w2.heap.size 112 5 v2 (0 + t.news.length + 1) (([] ++ (nwI t.news).map (Value.int .i64)) ++ [.int .i64 x1, .int .i64 x2, .int .i64 x3, .int .i64 x4, .int .i64 x5]) →
           w4.cell? ⟨y.b, 42, none⟩ = some (.slice (some ⟨g, 0, none⟩) t.news.length cv) ∧ w4.frozen? ⟨y.b, 42, none⟩ = false ∧
           Hid (w4.rowIs y.b 38 44 (tnF y (.slice (some ⟨g, 0, none⟩) t.news.length cv) t.C)) ∧
           Hid (TnDo y (.slice (some ⟨g, 0, none⟩) t.news.length cv) { t with news := t.news ++ [(⟨x1, x2, x3, x4, x5⟩ : Nt.Nw)] } 0 w (.returned (.int .i64 0)) (w4.setCell ⟨y.b, 42, none⟩ v2)) := by
         intro v2 w4 hW h2
         have hlen : (t.news ++ [(⟨x1, x2, x3, x4, x5⟩ : Nt.Nw)]).length = 0 + t.news.length + 1 := by rw [List.length_append]; simp
         have h4 := H.out.keep0 hW
         have hv : SlN w4 w2.heap.size v2 (t.news ++ [(⟨x1, x2, x3, x4, x5⟩ : Nt.Nw)]).length (nwI (t.news ++ [(⟨x1, x2, x3, x4, x5⟩ : Nt.Nw)])) := by
           rw [hlen, nwI_app]
           unfold SlN
           rw [List.map_append]
           simpa [nwI, List.flatMap] using h2
         have hv0 : SlN w4 0 v2 (t.news ++ [(⟨x1, x2, x3, x4, x5⟩ : Nt.Nw)]).length (nwI (t.news ++ [(⟨x1, x2, x3, x4, x5⟩ : Nt.Nw)])) := by
           refine ⟨hv.1, ?_⟩
           rcases hv.2 with hn | ⟨g', cap, cur, q1, q2, q3⟩
           · exact .inl hn
           · exact .inr ⟨g', cap, cur, q1, Nat.zero_le _, q3⟩
         refine ⟨cell_fr hW c42 (fun h => h), h4.fz 42, h4.row, v2, rfl, h4.setV hv0 (Fr.refl _ _), ((HF.out.trans hW).mono (fun _ _ h => h.elim)).trans (((Fr.refl (OneB y.b) w4).set1 _ _).mono (fun i _ h => .inl h)), fun g' hg' => .inr (by have := (World.ownsRow.lt hv g' hg').1; have := HF.out.size; omega)⟩
       have hl1 : ((nwI t.news).map (Value.int .i64)).length = t.news.length * 5 := by rw [List.length_map, nwI_len]
       have hko : 0 + t.news.length + 1 ≤ 2147483648 := by omega
       have hko1 : 0 + t.news.length ≤ 2147483648 := by omega
       have KEY1 := Lib.hid key1; clear key1; have KEYS := Lib.hid keyS; clear keyS; have KEYT := Lib.hid keyT; clear keyT; have KEY3 := Lib.hid key3; clear key3; have HL1 := Lib.hid hl1; clear hl1; have HKO := Lib.hid hko; clear hko; have HKO1 := Lib.hid hko1; clear hko1
       clear hl hl40'
       (refine wp_region_held_drew (S := (fun W => (W.cell? ⟨y.b, 42, none⟩).isSome = true ∧ W.frozen? ⟨y.b, 42, none⟩ = false ∧ W.cell? ⟨p8, 0, none⟩ = some (.int .i64 x1) ∧ W.cell? ⟨p8, 1, none⟩ = some (.int .i64 x2) ∧ W.cell? ⟨p8, 2, none⟩ = some (.int .i64 x3) ∧ W.cell? ⟨p8, 3, none⟩ = some (.int .i64 x4) ∧ W.cell? ⟨p8, 4, none⟩ = some (.int .i64 x5))) (by kernel_rfl) (KEYS.out _ (Fr.refl NoB w2).drew) (fun hHeld => ?_))
       (refine wpAnyH_take (i := 0) (v := ?_) (by simp only [List.getElem?_toArray, List.getElem?_cons_zero]; rfl) (by kernel_rfl) (by kernel_rfl) (by kernel_rfl) (by exact fun _ _ _ h => h) (Or.inl ⟨by rfl, ?_⟩) hHeld ?_; rotate_left; (focus (intro w hSw; (try dsimp only at hSw); go_simp; all_goals with_reducible rfl)); (try simp only [Act.put, List.setIfInBounds_toArray, List.set_cons_zero, List.set_cons_succ])); (refine wpAnyH_take (i := 1) (v := ?_) (by simp only [List.getElem?_toArray, List.getElem?_cons_succ, List.getElem?_cons_zero]; rfl) (by kernel_rfl) (by kernel_rfl) (by kernel_rfl) (by exact fun _ _ _ h => h) (Or.inl ⟨by rfl, ?_⟩) hHeld ?_; rotate_left; (focus (intro w hSw; (try dsimp only at hSw); go_simp; all_goals with_reducible rfl)); (try simp only [Act.put, List.setIfInBounds_toArray, List.set_cons_zero, List.set_cons_succ])); (refine wpAnyH_take (i := 2) (v := ?_) (by simp only [List.getElem?_toArray, List.getElem?_cons_succ, List.getElem?_cons_zero]; rfl) (by kernel_rfl) (by kernel_rfl) (by kernel_rfl) (by exact fun _ _ _ h => h) (Or.inl ⟨by rfl, ?_⟩) hHeld ?_; rotate_left; (focus (intro w hSw; (try dsimp only at hSw); go_simp; all_goals with_reducible rfl)); (try simp only [Act.put, List.setIfInBounds_toArray, List.set_cons_zero, List.set_cons_succ])); (refine wpAnyH_take (i := 3) (v := ?_) (by simp only [List.getElem?_toArray, List.getElem?_cons_succ, List.getElem?_cons_zero]; rfl) (by kernel_rfl) (by kernel_rfl) (by kernel_rfl) (by exact fun _ _ _ h => h) (Or.inl ⟨by rfl, ?_⟩) hHeld ?_; rotate_left; (focus (intro w hSw; (try dsimp only at hSw); go_simp; all_goals with_reducible rfl)); (try simp only [Act.put, List.setIfInBounds_toArray, List.set_cons_zero, List.set_cons_succ])); (refine wpAnyH_take (i := 4) (v := ?_) (by simp only [List.getElem?_toArray, List.getElem?_cons_succ, List.getElem?_cons_zero]; rfl) (by kernel_rfl) (by kernel_rfl) (by kernel_rfl) (by exact fun _ _ _ h => h) (Or.inl ⟨by rfl, ?_⟩) hHeld ?_; rotate_left; (focus (intro w hSw; (try dsimp only at hSw); go_simp; all_goals with_reducible rfl)); (try simp only [Act.put, List.setIfInBounds_toArray, List.set_cons_zero, List.set_cons_succ])); (refine wpAnyH_take (i := 7) (v := ?_) (by simp only [List.getElem?_toArray, List.getElem?_cons_succ, List.getElem?_cons_zero]; rfl) (by kernel_rfl) (by kernel_rfl) (by kernel_rfl) (by exact fun _ _ _ h => h) (Or.inl ⟨by rfl, ?_⟩) hHeld ?_; rotate_left; (focus (intro w hSw; (try dsimp only at hSw); go_simp; all_goals with_reducible rfl)); (try simp only [Act.put, List.setIfInBounds_toArray, List.set_cons_zero, List.set_cons_succ]))
       refine wpAnyH_ready (rs := [5, 8]) (by kernel_rfl) (by simp) ?_
       refine AllReadyH.cons (by simp only [List.getElem?_toArray, List.getElem?_cons_succ, List.getElem?_cons_zero]; rfl) (fun K hK => ?_) (AllReadyH.cons (by simp only [List.getElem?_toArray, List.getElem?_cons_succ, List.getElem?_cons_zero]; rfl) (fun K hK => ?_) AllReadyH.nil)
       · go_simp
         refine hK.out _ _ (KEYS.out _ (Fr.refl NoB w2).drew) (fun hHeld => ?_)
         clear hK K
         (try simp only [Act.put, List.setIfInBounds_toArray, List.set_cons_zero, List.set_cons_succ])
         refine wpAnyH_ready (rs := [6, 8]) (by kernel_rfl) (by simp) ?_
         refine AllReadyH.cons (by simp only [List.getElem?_toArray, List.getElem?_cons_succ, List.getElem?_cons_zero]; rfl) (fun K hK => ?_) (AllReadyH.cons (by simp only [List.getElem?_toArray, List.getElem?_cons_succ, List.getElem?_cons_zero]; rfl) (fun K hK => ?_) AllReadyH.nil)
         ·
           refine step_own (by rfl) (.tmp 133) (.tmp 137) 36 112 5 40 (.agg #[.int .i64 0, .int .i64 0, .int .i64 0, .int .i64 0, .int .i64 0]) (by rfl) Tryz.underlying36 Tryz.info112 rfl (by omega) w2.heap.size (.slice none 0 0) 0 [] (by rfl) (World.ownsRow_nil _ _ _ _) ⟨g, 0, none⟩ t.news.length cv ((nwI t.news).map (Value.int .i64)) (by rfl) HL1.out (fun j u hu => cell_fr (Fr.refl NoB w2).drew (KEY1.out j u hu) (fun h => h)) (nw_one _) HKO1.out (by omega) (Nat.le_refl _) ?_
           intro v1 w3 hv1 hfr
           have hfrA := ((Fr.refl NoB w2).drew).trans (hfr.mono (fun i _ h => by cases h))
           have HFR1 := Lib.hid hfrA; clear hfrA
           clear hfr
           have HV1 := Lib.hid hv1; clear hv1
           refine hK.out _ _ (KEYS.out _ HFR1.out) (fun hHeld => ?_)
           clear hK K
           (try simp only [Act.put, List.setIfInBounds_toArray, List.set_cons_zero, List.set_cons_succ])
           refine wpAnyH_ready (rs := [8]) (by kernel_rfl) (by simp) ?_
           refine AllReadyH.cons (by simp only [List.getElem?_toArray, List.getElem?_cons_succ, List.getElem?_cons_zero]; rfl) (fun K hK => ?_) AllReadyH.nil
           go_simp
           refine hK.out _ _ (KEYS.out _ (HFR1.out.alloc _)) (fun hHeld => ?_)
           clear hK K
           (try simp only [Act.put, List.setIfInBounds_toArray, List.set_cons_zero, List.set_cons_succ])
           refine wpAnyH_ready (rs := [9]) (by kernel_rfl) (by simp) ?_
           refine AllReadyH.cons (by simp only [List.getElem?_toArray, List.getElem?_cons_succ, List.getElem?_cons_zero]; rfl) (fun K hK => ?_) AllReadyH.nil
           refine step_own (by rfl) (.tmp 138) (.tmp 140) 36 112 5 40 (.agg #[.int .i64 0, .int .i64 0, .int .i64 0, .int .i64 0, .int .i64 0]) (by rfl) Tryz.underlying36 Tryz.info112 rfl (by omega) w2.heap.size v1 (0 + t.news.length) _ (by rfl) (World.ownsRow.alloc HV1.out _) ⟨w3.heap.size, 0, none⟩ 1 1 [.int .i64 x1, .int .i64 x2, .int .i64 x3, .int .i64 x4, .int .i64 x5] (by rfl) (by rfl) (World.news_of_block (cs := #[.int .i64 x1, .int .i64 x2, .int .i64 x3, .int .i64 x4, .int .i64 x5]) (t := 112) (fr := (0, 0)) (heap_alloc_new w3 _)) (by simp [Value.oneCell']) HKO.out (by omega) ((HFR1.out.alloc _).size) ?_
           intro v2 w4 hv2 hfr; obtain ⟨a2, cap2, rfl⟩ := own_slice hv2
           have hfr2 : Fr NoB w2 w4 := Fr.ownB (HFR1.out.alloc _) (World.ownsRow.alloc HV1.out _) (Nat.le_refl _) hfr
           obtain ⟨r42, rf42, HROW, HFIN⟩ := KEY3.out _ w4 hfr2 hv2
           have HFR2 := Lib.hid hfr2; clear hfr hfr2 hv2
           refine hK.out _ _ (KEYS.out _ HFR2.out) (fun hHeld => ?_)
           clear hK K
           (try simp only [Act.put, List.setIfInBounds_toArray, List.set_cons_zero, List.set_cons_succ])
           (refine wpAnyH_take (i := 10) (v := ?_) (by simp only [List.getElem?_toArray, List.getElem?_cons_succ, List.getElem?_cons_zero]; rfl) (by kernel_rfl) (by kernel_rfl) (by kernel_rfl) (by exact fun _ _ _ h => h) (Or.inl ⟨by rfl, ?_⟩) hHeld ?_; rotate_left; (focus (intro w hSw; (try dsimp only at hSw); go_simp; all_goals with_reducible rfl)); (try simp only [Act.put, List.setIfInBounds_toArray, List.set_cons_zero, List.set_cons_succ])); (refine wpAnyH_take (i := 11) (v := ?_) (by simp only [List.getElem?_toArray, List.getElem?_cons_succ, List.getElem?_cons_zero]; rfl) (by kernel_rfl) (by kernel_rfl) (by kernel_rfl) (by exact fun _ _ _ h => h) (Or.inl ⟨by rfl, ?_⟩) hHeld ?_; rotate_left; (focus (intro w hSw; (try dsimp only at hSw); go_simp; all_goals with_reducible rfl)); (try simp only [Act.put, List.setIfInBounds_toArray, List.set_cons_zero, List.set_cons_succ]))
           refine wpAnyH_ready (rs := [12]) (by kernel_rfl) (by simp) ?_
           refine AllReadyH.cons (by simp only [List.getElem?_toArray, List.getElem?_cons_succ, List.getElem?_cons_zero]; rfl) (fun K hK => ?_) AllReadyH.nil
           go_simp
           refine hK.out _ _ (KEYT.out _ HFR2.out _) (fun hHeld => ?_)
           clear hK K
           (try simp only [Act.put, List.setIfInBounds_toArray, List.set_cons_zero, List.set_cons_succ])
           (refine wpAnyH_done (by kernel_rfl) ?_ _)
           have hfin := HFIN.out
           rw [Nat.zero_add] at hfin
           have HFI := Lib.hid hfin
           clear hfin HFIN r42 rf42 HROW
           go_wp2
           go_ret
           exact HFI.out
         · go_simp
           refine hK.out _ _ (KEYS.out _ ((Fr.refl NoB w2).drew.alloc _)) (fun hHeld => ?_)
           clear hK K
           (try simp only [Act.put, List.setIfInBounds_toArray, List.set_cons_zero, List.set_cons_succ])
           refine wpAnyH_ready (rs := [6]) (by kernel_rfl) (by simp) ?_
           refine AllReadyH.cons (by simp only [List.getElem?_toArray, List.getElem?_cons_succ, List.getElem?_cons_zero]; rfl) (fun K hK => ?_) AllReadyH.nil
           refine step_own (by rfl) (.tmp 133) (.tmp 137) 36 112 5 40 (.agg #[.int .i64 0, .int .i64 0, .int .i64 0, .int .i64 0, .int .i64 0]) (by rfl) Tryz.underlying36 Tryz.info112 rfl (by omega) w2.heap.size (.slice none 0 0) 0 [] (by rfl) (World.ownsRow_nil _ _ _ _) ⟨g, 0, none⟩ t.news.length cv ((nwI t.news).map (Value.int .i64)) (by rfl) HL1.out (fun j u hu => cell_fr ((Fr.refl NoB w2).drew.alloc _) (KEY1.out j u hu) (fun h => h)) (nw_one _) HKO1.out (by omega) (((Fr.refl NoB w2).drew.alloc _).size) ?_
           intro v1 w3 hv1 hfr
           have hfrA := (((Fr.refl NoB w2).drew.alloc _)).trans (hfr.mono (fun i _ h => by cases h))
           have HFR1 := Lib.hid hfrA; clear hfrA
           have HFR0 := Lib.hid hfr; clear hfr
           have HV1 := Lib.hid hv1; clear hv1
           refine hK.out _ _ (KEYS.out _ HFR1.out) (fun hHeld => ?_)
           clear hK K
           (try simp only [Act.put, List.setIfInBounds_toArray, List.set_cons_zero, List.set_cons_succ])
           refine wpAnyH_ready (rs := [9]) (by kernel_rfl) (by simp) ?_
           refine AllReadyH.cons (by simp only [List.getElem?_toArray, List.getElem?_cons_succ, List.getElem?_cons_zero]; rfl) (fun K hK => ?_) AllReadyH.nil
           refine step_own (by rfl) (.tmp 138) (.tmp 140) 36 112 5 40 (.agg #[.int .i64 0, .int .i64 0, .int .i64 0, .int .i64 0, .int .i64 0]) (by rfl) Tryz.underlying36 Tryz.info112 rfl (by omega) w2.heap.size v1 (0 + t.news.length) _ (by rfl) HV1.out ⟨w2.heap.size, 0, none⟩ 1 1 [.int .i64 x1, .int .i64 x2, .int .i64 x3, .int .i64 x4, .int .i64 x5] (by rfl) (by rfl) (fun j u hu => cell_fr HFR0.out (World.news_of_block (cs := #[.int .i64 x1, .int .i64 x2, .int .i64 x3, .int .i64 x4, .int .i64 x5]) (t := 112) (fr := (0, 0)) (heap_alloc_new w2.drew _) j u hu) (fun h => by cases h)) (by simp [Value.oneCell']) HKO.out (by omega) (HFR1.out.size) ?_
           intro v2 w4 hv2 hfr; obtain ⟨a2, cap2, rfl⟩ := own_slice hv2
           have hfr2 : Fr NoB w2 w4 := Fr.ownB HFR1.out HV1.out (Nat.le_refl _) hfr
           obtain ⟨r42, rf42, HROW, HFIN⟩ := KEY3.out _ w4 hfr2 hv2
           have HFR2 := Lib.hid hfr2; clear hfr hfr2 hv2
           refine hK.out _ _ (KEYS.out _ HFR2.out) (fun hHeld => ?_)
           clear hK K
           (try simp only [Act.put, List.setIfInBounds_toArray, List.set_cons_zero, List.set_cons_succ])
           (refine wpAnyH_take (i := 10) (v := ?_) (by simp only [List.getElem?_toArray, List.getElem?_cons_succ, List.getElem?_cons_zero]; rfl) (by kernel_rfl) (by kernel_rfl) (by kernel_rfl) (by exact fun _ _ _ h => h) (Or.inl ⟨by rfl, ?_⟩) hHeld ?_; rotate_left; (focus (intro w hSw; (try dsimp only at hSw); go_simp; all_goals with_reducible rfl)); (try simp only [Act.put, List.setIfInBounds_toArray, List.set_cons_zero, List.set_cons_succ])); (refine wpAnyH_take (i := 11) (v := ?_) (by simp only [List.getElem?_toArray, List.getElem?_cons_succ, List.getElem?_cons_zero]; rfl) (by kernel_rfl) (by kernel_rfl) (by kernel_rfl) (by exact fun _ _ _ h => h) (Or.inl ⟨by rfl, ?_⟩) hHeld ?_; rotate_left; (focus (intro w hSw; (try dsimp only at hSw); go_simp; all_goals with_reducible rfl)); (try simp only [Act.put, List.setIfInBounds_toArray, List.set_cons_zero, List.set_cons_succ]))
           refine wpAnyH_ready (rs := [12]) (by kernel_rfl) (by simp) ?_
           refine AllReadyH.cons (by simp only [List.getElem?_toArray, List.getElem?_cons_succ, List.getElem?_cons_zero]; rfl) (fun K hK => ?_) AllReadyH.nil
           go_simp
           refine hK.out _ _ (KEYT.out _ HFR2.out _) (fun hHeld => ?_)
           clear hK K
           (try simp only [Act.put, List.setIfInBounds_toArray, List.set_cons_zero, List.set_cons_succ])
           (refine wpAnyH_done (by kernel_rfl) ?_ _)
           have hfin := HFIN.out
           rw [Nat.zero_add] at hfin
           have HFI := Lib.hid hfin
           clear hfin HFIN r42 rf42 HROW
           go_wp2
           go_ret
           exact HFI.out
       · go_simp
         refine hK.out _ _ (KEYS.out _ ((Fr.refl NoB w2).drew.alloc _)) (fun hHeld => ?_)
         clear hK K
         (try simp only [Act.put, List.setIfInBounds_toArray, List.set_cons_zero, List.set_cons_succ])
         refine wpAnyH_ready (rs := [5]) (by kernel_rfl) (by simp) ?_
         refine AllReadyH.cons (by simp only [List.getElem?_toArray, List.getElem?_cons_succ, List.getElem?_cons_zero]; rfl) (fun K hK => ?_) AllReadyH.nil
         go_simp
         refine hK.out _ _ (KEYS.out _ ((Fr.refl NoB w2).drew.alloc _)) (fun hHeld => ?_)
         clear hK K
         (try simp only [Act.put, List.setIfInBounds_toArray, List.set_cons_zero, List.set_cons_succ])
         refine wpAnyH_ready (rs := [6]) (by kernel_rfl) (by simp) ?_
         refine AllReadyH.cons (by simp only [List.getElem?_toArray, List.getElem?_cons_succ, List.getElem?_cons_zero]; rfl) (fun K hK => ?_) AllReadyH.nil
         refine step_own (by rfl) (.tmp 133) (.tmp 137) 36 112 5 40 (.agg #[.int .i64 0, .int .i64 0, .int .i64 0, .int .i64 0, .int .i64 0]) (by rfl) Tryz.underlying36 Tryz.info112 rfl (by omega) w2.heap.size (.slice none 0 0) 0 [] (by rfl) (World.ownsRow_nil _ _ _ _) ⟨g, 0, none⟩ t.news.length cv ((nwI t.news).map (Value.int .i64)) (by rfl) HL1.out (fun j u hu => cell_fr ((Fr.refl NoB w2).drew.alloc _) (KEY1.out j u hu) (fun h => h)) (nw_one _) HKO1.out (by omega) (((Fr.refl NoB w2).drew.alloc _).size) ?_
         intro v1 w3 hv1 hfr
         have hfrA := (((Fr.refl NoB w2).drew.alloc _)).trans (hfr.mono (fun i _ h => by cases h))
         have HFR1 := Lib.hid hfrA; clear hfrA
         have HFR0 := Lib.hid hfr; clear hfr
         have HV1 := Lib.hid hv1; clear hv1
         refine hK.out _ _ (KEYS.out _ HFR1.out) (fun hHeld => ?_)
         clear hK K
         (try simp only [Act.put, List.setIfInBounds_toArray, List.set_cons_zero, List.set_cons_succ])
         refine wpAnyH_ready (rs := [9]) (by kernel_rfl) (by simp) ?_
         refine AllReadyH.cons (by simp only [List.getElem?_toArray, List.getElem?_cons_succ, List.getElem?_cons_zero]; rfl) (fun K hK => ?_) AllReadyH.nil
         refine step_own (by rfl) (.tmp 138) (.tmp 140) 36 112 5 40 (.agg #[.int .i64 0, .int .i64 0, .int .i64 0, .int .i64 0, .int .i64 0]) (by rfl) Tryz.underlying36 Tryz.info112 rfl (by omega) w2.heap.size v1 (0 + t.news.length) _ (by rfl) HV1.out ⟨w2.heap.size, 0, none⟩ 1 1 [.int .i64 x1, .int .i64 x2, .int .i64 x3, .int .i64 x4, .int .i64 x5] (by rfl) (by rfl) (fun j u hu => cell_fr HFR0.out (World.news_of_block (cs := #[.int .i64 x1, .int .i64 x2, .int .i64 x3, .int .i64 x4, .int .i64 x5]) (t := 112) (fr := (0, 0)) (heap_alloc_new w2.drew _) j u hu) (fun h => by cases h)) (by simp [Value.oneCell']) HKO.out (by omega) (HFR1.out.size) ?_
         intro v2 w4 hv2 hfr; obtain ⟨a2, cap2, rfl⟩ := own_slice hv2
         have hfr2 : Fr NoB w2 w4 := Fr.ownB HFR1.out HV1.out (Nat.le_refl _) hfr
         obtain ⟨r42, rf42, HROW, HFIN⟩ := KEY3.out _ w4 hfr2 hv2
         have HFR2 := Lib.hid hfr2; clear hfr hfr2 hv2
         refine hK.out _ _ (KEYS.out _ HFR2.out) (fun hHeld => ?_)
         clear hK K
         (try simp only [Act.put, List.setIfInBounds_toArray, List.set_cons_zero, List.set_cons_succ])
         (refine wpAnyH_take (i := 10) (v := ?_) (by simp only [List.getElem?_toArray, List.getElem?_cons_succ, List.getElem?_cons_zero]; rfl) (by kernel_rfl) (by kernel_rfl) (by kernel_rfl) (by exact fun _ _ _ h => h) (Or.inl ⟨by rfl, ?_⟩) hHeld ?_; rotate_left; (focus (intro w hSw; (try dsimp only at hSw); go_simp; all_goals with_reducible rfl)); (try simp only [Act.put, List.setIfInBounds_toArray, List.set_cons_zero, List.set_cons_succ])); (refine wpAnyH_take (i := 11) (v := ?_) (by simp only [List.getElem?_toArray, List.getElem?_cons_succ, List.getElem?_cons_zero]; rfl) (by kernel_rfl) (by kernel_rfl) (by kernel_rfl) (by exact fun _ _ _ h => h) (Or.inl ⟨by rfl, ?_⟩) hHeld ?_; rotate_left; (focus (intro w hSw; (try dsimp only at hSw); go_simp; all_goals with_reducible rfl)); (try simp only [Act.put, List.setIfInBounds_toArray, List.set_cons_zero, List.set_cons_succ]))
         refine wpAnyH_ready (rs := [12]) (by kernel_rfl) (by simp) ?_
         refine AllReadyH.cons (by simp only [List.getElem?_toArray, List.getElem?_cons_succ, List.getElem?_cons_zero]; rfl) (fun K hK => ?_) AllReadyH.nil
         go_simp
         refine hK.out _ _ (KEYT.out _ HFR2.out _) (fun hHeld => ?_)
         clear hK K
         (try simp only [Act.put, List.setIfInBounds_toArray, List.set_cons_zero, List.set_cons_succ])
         (refine wpAnyH_done (by kernel_rfl) ?_ _)
         have hfin := HFIN.out
         rw [Nat.zero_add] at hfin
         have HFI := Lib.hid hfin
         clear hfin HFIN r42 rf42 HROW
         go_wp2
         go_ret
         exact HFI.out
end Go.Proofs.YteedndapbfihaaaGreat
/- The town's Do, whatever is asked but for owners; In. -/
namespace Go.Proofs.YteedndapbfihaaaGreat
open Go.RowKit Go.Deep

theorem TDo_any (y : TIds) (u : Value) (t : Nt.NT) (k a b n pl pb : Int) (m : Nat) (w : World) (hr : Nt.NOk t m) (hm : m ≤ 1000) (h7 : k ≠ 7) (h : TnAt w y u t) : TDoSaid y u t k a b n pl pb w := by
  by_cases h1 : k = 1
  · subst h1; exact TDo_link y u t a b n pl pb m w hr h
  · by_cases h2 : k = 2
    · subst h2; exact TDo_tick y u t a b n pl pb m w hr hm h
    · by_cases h3 : k = 3
      · subst h3; exact TDo_tell y u t a b n pl pb m w hr h
      · by_cases h4 : k = 4
        · subst h4; exact TDo_hear y u t a b n pl pb m w hr h
        · by_cases h5 : k = 5
          · subst h5; exact TDo_lose y u t a b n pl pb m w hr h
          · by_cases h6 : k = 6
            · subst h6; exact TDo_dbl y u t a b n pl pb m w hr h
            · exact TDo_else y u t k a b n pl pb w h1 h2 h3 h4 h5 h6 h7 h
def InRel (xs : List Int) (y : Int) (w : World) (i : Value) (wr : World) : Prop := ∃ k : Nat, k ≤ xs.length ∧ i = .int .i64 k ∧ (∀ j, j < k → xs.getD j 0 ≠ y) ∧ wr = w
set_option maxHeartbeats 1000000 in
theorem RIn_any (base : Nat) (v : Value) (xs : List Int) (y : Int) (w : World) (hl : xs.length ≤ 1000000) (h : Sl w base v xs) :
    Calls Tryz.prog 60 #[v, .int .i64 y] w fun e w' => e = .returned (.bool (decide (y ∈ xs))) ∧ w = w' := by
  obtain ⟨al, c, rfl, j⟩ := ownsRow_rd h
  clear j
  have H := Lib.hid h; clear h
  go_enter Tryz.func60, Tryz.ntmps60
  go_wp2
  go_loopw [5] (fun i wr => InRel xs y w i wr) (fun i _ => xs.length - (intOf i).toNat)
  case atStart => exact ⟨0, by omega, rfl, fun j h => by omega, rfl⟩
  case round =>
    obtain ⟨k, hk, rfl, hne, rfl⟩ := hrel
    have HNE := Lib.hid hne; clear hne
    by_cases hkn : k < xs.length
    · obtain ⟨g, rfl, cg⟩ := Sl.at H.out hkn
      have hmem : xs.getD k 0 ∈ xs := by simp [hkn]
      generalize hz : xs.getD k 0 = z at *
      by_cases he : z = y
      · have heb : (z == y) = true := by simp [he]
        have hm : decide (y ∈ xs) = true := by rw [← he]; simpa using hmem
        clear hmem hz he
        have HM := Lib.hid hm; clear hm
        go_wp2
        go_ret
        exact ⟨ret_bool HM.out.symm, rfl⟩
      · have heb : (z == y) = false := by simpa using he
        have hne : ∀ j, j < k + 1 → xs.getD j 0 ≠ y := fun j hj => by
          by_cases e : j = k
          · rw [e, hz]; exact he
          · exact HNE.out j (by omega)
        clear hmem hz he HNE
        have HNE := Lib.hid hne; clear hne
        go_wp2
        go_roundw
        case rel => exact ⟨k + 1, by omega, by go_num, HNE.out, rfl⟩
        case measure => simp [intOf]; omega
    · have hm : decide (y ∈ xs) = false := by
        refine decide_eq_false (fun hm => ?_)
        obtain ⟨j, hj, e⟩ := List.mem_iff_getElem.1 hm
        exact HNE.out j (by omega) (by simp [hj, e])
      clear HNE
      have HM := Lib.hid hm; clear hm
      go_wp2
      go_ret
      exact ⟨ret_bool HM.out.symm, rfl⟩
theorem TnAt.own_off {w : World} {y : TIds} {v u : Value} {t : Nt.NT} {base n size : Nat} {e : TypeId} {xs : List Value} (h : TnAt w y v t) (k : w.ownsRow base e size u n xs) (e1 : 38 ≠ e) (e2 : 151 ≠ e) (e3 : 112 ≠ e) :
    ∀ i, u.ownBlock = some i → ¬ FtT y v i := by
  intro i hi hf
  rcases hf with hf | ⟨j, hj, hf⟩ | hf
  · subst hf; exact row_own_apart h.row k e1 hi
  · subst hf; exact row_own_apart (h.node j hj) k e2 hi
  · exact own_apart h.news k e3 i hf hi
end Go.Proofs.YteedndapbfihaaaGreat
