/- Walk: least.wish. -/
import Derived.Test.YteedndapbfihaaaGreatB30
namespace Go.Proofs.YteedndapbfihaaaGreat
open Go.RowKit Go.Deep

def WishPost (T : Tb.Tr) (w : World) (e : Ending) (w' : World) : Prop := ∃ v, e = .returned v ∧ Sl w' w.heap.size v (Tb.W (Tb.wshT T)) ∧ Fr NoB w w'
def WishSaid (T : Tb.Tr) : Prop := ∀ (b : Nat) (w : World), TrAt w T b → Tb.HopT T → Calls Tryz.prog 103 #[.pointer (some ⟨b, 0, none⟩)] w (WishPost T w)
theorem one_int (w : World) (x : Int) : Sl (w.alloc (.cells #[.int .i64 x] 3)) w.heap.size (.slice (some ⟨w.heap.size, 0, none⟩) 1 1) [x] :=
  row_own (f := fun _ => .int .i64 x) (World.rowIs_alloc w #[.int .i64 x] 3 _ (by intro i hi; simp at hi; subst hi; rfl)) (Nat.le_refl _) (Nat.le_refl _) (by unfold maxLen; omega) rfl (fun k hk => by
    have : k = 0 := by omega
    subst this
    rfl)
theorem Sl.base {w : World} {b1 b2 : Nat} {v : Value} {xs : List Int} (h : Sl w b1 v xs) (hb : b2 ≤ b1) : Sl w b2 v xs := by
  refine ⟨h.1, ?_⟩
  rcases h.2 with h | ⟨g, cap, cur, h1, h2, h3⟩
  · exact .inl h
  · exact .inr ⟨g, cap, cur, h1, Nat.le_trans hb h2, h3⟩
theorem Sl.below {w : World} {b : Nat} {v : Value} {xs : List Int} (h : Sl w b v xs) : ∀ g, v.ownBlock = some g → g < w.heap.size := fun g hg => (World.ownsRow.lt h g hg).2
set_option maxRecDepth 100000 in
set_option maxHeartbeats 4000000 in
theorem wish_leaf (p : Tb.Pf) (x : Int) : WishSaid (.leaf p x) := by
  intro b w ht hh
  obtain ⟨c0, c1, c2⟩ := ht.c01
  have e : Tb.W (Tb.wshT (.leaf p x)) = [x] := Tb.W_leaf hh
  have HE := Lib.hid e
  have HT := Lib.hid ht
  clear ht e hh
  dsimp only [Tb.Tr.root, Tb.Tr.hop0] at c0 c1 c2
  go_enter Tryz.func103, Tryz.ntmps103
  go_wp2_with fail
  refine (Leaf_any _ b _ HT.out).mono ?_
  rintro e w1 ⟨rfl, rfl⟩
  dsimp only [Tb.Tr.isLeaf]
  go_wp2
  go_ret
  refine ⟨_, rfl, ?_, (Fr.refl _ _).alloc _⟩
  rw [HE.out]
  exact one_int w x
/-- What stands in the loop of wish. -/
def WiRel (A B : List Int) (v0 v1 : Value) (N : Nat) (w : World) (v i : Value) (wr : World) : Prop :=
  ∃ k : Nat, k ≤ A.length ∧ i = .int .i64 k ∧ Hid (Sl wr N v (Tb.common (A.take k) B)) ∧ Hid (Sl wr w.heap.size v0 A) ∧ Hid (Sl wr w.heap.size v1 B) ∧ Hid (Fr NoB w wr) ∧ Hid (N ≤ wr.heap.size)
theorem take_getD {A : List Int} {k : Nat} (h : k < A.length) : A.take (k + 1) = A.take k ++ [A.getD k 0] := by
  rw [List.take_succ_eq_append_getElem h, List.getD_eq_getElem?_getD, List.getElem?_eq_getElem h]
  rfl
theorem Fr.newer {a w w' : World} {N : Nat} (h : Fr NoB a w) (hN : a.heap.size ≤ N) (k : Fr (fun i => N ≤ i) w w') : Fr NoB a w' := h.trans' k (fun i hi hi' => by omega)
set_option maxRecDepth 100000 in
set_option maxHeartbeats 16000000 in
theorem wish_node (p : Tb.Pf) (tl tr : Tb.Tr) (IHL : WishSaid tl) (IHR : WishSaid tr) : WishSaid (.node p tl tr) := by
  intro b w ht hh
  have hlf := Leaf_any _ b _ ht
  obtain ⟨bl, br, hn, hl, hr⟩ := ht
  have c3 := hn.c3
  have c4 := hn.c4
  have ihl := fun W (hW : Fr NoB w W) => IHL bl W (hl.keep0 hW) hh.1
  have ihr := fun W (hW : Fr NoB w W) => IHR br W (hr.keep0 hW) hh.2
  have wl := Tb.wshT_wish tl hh.1
  have wr := Tb.wshT_wish tr hh.2
  show Calls Tryz.prog 103 _ w (fun e w' => ∃ v, e = .returned v ∧ Sl w' w.heap.size v (Tb.W (Tb.mix (Tb.wshT tl) (Tb.wshT tr))) ∧ Fr NoB w w')
  unfold WishPost at ihl ihr
  have hpa := Tb.W_pos wl
  have hpb := Tb.W_pos wr
  have hla := Tb.W_len (Tb.wshT tl)
  have hlb := Tb.W_len (Tb.wshT tr)
  have hm1 := Tb.mix_common wl wr
  have hm2 := fun h l => Tb.mix_union wl wr h (l := l)
  generalize Tb.W (Tb.mix (Tb.wshT tl) (Tb.wshT tr)) = M at *
  generalize Tb.W (Tb.wshT tl) = A at *
  generalize Tb.W (Tb.wshT tr) = B at *
  have hcl : ∀ k, (Tb.common (A.take k) B).length ≤ 7 := fun k => by
    have h1 : (Tb.common (A.take k) B).length ≤ (A.take k).length := List.length_filter_le _ _
    rw [List.length_take] at h1
    omega
  have IL := Lib.hid ihl; clear ihl; have IR := Lib.hid ihr; clear ihr; have HLF := Lib.hid hlf; clear hlf; have HPA := Lib.hid hpa; clear hpa; have HPB := Lib.hid hpb; clear hpb; have HLA := Lib.hid hla; clear hla; have HLB := Lib.hid hlb; clear hlb; have HM1 := Lib.hid hm1; clear hm1; have HM2 := Lib.hid hm2; clear hm2; have HCL := Lib.hid hcl; clear hcl
  clear hn hl hr IHL IHR hh wl wr
  go_enter Tryz.func103, Tryz.ntmps103
  go_wp2_with fail
  refine HLF.out.mono ?_
  rintro e w1 ⟨rfl, rfl⟩
  dsimp only [Tb.Tr.isLeaf]
  go_upto_region 3 with fail
  have HD := Lib.hid (Fr.drew (Fr.refl NoB w))
  (refine wp_region_held_drew (S := (fun W => W.cell? ⟨b, 3, none⟩ = some (.pointer (some ⟨bl, 0, none⟩)) ∧ W.cell? ⟨b, 4, none⟩ = some (.pointer (some ⟨br, 0, none⟩)))) (by kernel_rfl) ⟨c3, c4⟩ (fun hHeld => ?_))
  (refine wpAnyH_take (i := 0) (v := ?_) (by simp only [List.getElem?_toArray, List.getElem?_cons_zero]; rfl) (by kernel_rfl) (by kernel_rfl) (by kernel_rfl) (by exact fun _ _ _ h => h) (Or.inl ⟨by rfl, ?_⟩) hHeld ?_; rotate_left; (focus (intro w hSw; (try dsimp only at hSw); go_simp; all_goals with_reducible rfl)); (try simp only [Act.put, List.setIfInBounds_toArray, List.set_cons_zero, List.set_cons_succ])); (refine wpAnyH_take (i := 1) (v := ?_) (by simp only [List.getElem?_toArray, List.getElem?_cons_succ, List.getElem?_cons_zero]; rfl) (by kernel_rfl) (by kernel_rfl) (by kernel_rfl) (by exact fun _ _ _ h => h) (Or.inl ⟨by rfl, ?_⟩) hHeld ?_; rotate_left; (focus (intro w hSw; (try dsimp only at hSw); go_simp; all_goals with_reducible rfl)); (try simp only [Act.put, List.setIfInBounds_toArray, List.set_cons_zero, List.set_cons_succ])); (refine wpAnyH_take (i := 2) (v := ?_) (by simp only [List.getElem?_toArray, List.getElem?_cons_succ, List.getElem?_cons_zero]; rfl) (by kernel_rfl) (by kernel_rfl) (by kernel_rfl) (by exact fun _ _ _ h => h) (Or.inl ⟨by rfl, ?_⟩) hHeld ?_; rotate_left; (focus (intro w hSw; (try dsimp only at hSw); go_simp; all_goals with_reducible rfl)); (try simp only [Act.put, List.setIfInBounds_toArray, List.set_cons_zero, List.set_cons_succ])); (refine wpAnyH_take (i := 3) (v := ?_) (by simp only [List.getElem?_toArray, List.getElem?_cons_succ, List.getElem?_cons_zero]; rfl) (by kernel_rfl) (by kernel_rfl) (by kernel_rfl) (by exact fun _ _ _ h => h) (Or.inl ⟨by rfl, ?_⟩) hHeld ?_; rotate_left; (focus (intro w hSw; (try dsimp only at hSw); go_simp; all_goals with_reducible rfl)); (try simp only [Act.put, List.setIfInBounds_toArray, List.set_cons_zero, List.set_cons_succ])); (refine wpAnyH_take (i := 5) (v := ?_) (by simp only [List.getElem?_toArray, List.getElem?_cons_succ, List.getElem?_cons_zero]; rfl) (by kernel_rfl) (by kernel_rfl) (by kernel_rfl) (by exact fun _ _ _ h => h) (Or.inl ⟨by rfl, ?_⟩) hHeld ?_; rotate_left; (focus (intro w hSw; (try dsimp only at hSw); go_simp; all_goals with_reducible rfl)); (try simp only [Act.put, List.setIfInBounds_toArray, List.set_cons_zero, List.set_cons_succ])); (refine wpAnyH_take (i := 6) (v := ?_) (by simp only [List.getElem?_toArray, List.getElem?_cons_succ, List.getElem?_cons_zero]; rfl) (by kernel_rfl) (by kernel_rfl) (by kernel_rfl) (by exact fun _ _ _ h => h) (Or.inl ⟨by rfl, ?_⟩) hHeld ?_; rotate_left; (focus (intro w hSw; (try dsimp only at hSw); go_simp; all_goals with_reducible rfl)); (try simp only [Act.put, List.setIfInBounds_toArray, List.set_cons_zero, List.set_cons_succ])); (refine wpAnyH_take (i := 7) (v := ?_) (by simp only [List.getElem?_toArray, List.getElem?_cons_succ, List.getElem?_cons_zero]; rfl) (by kernel_rfl) (by kernel_rfl) (by kernel_rfl) (by exact fun _ _ _ h => h) (Or.inl ⟨by rfl, ?_⟩) hHeld ?_; rotate_left; (focus (intro w hSw; (try dsimp only at hSw); go_simp; all_goals with_reducible rfl)); (try simp only [Act.put, List.setIfInBounds_toArray, List.set_cons_zero, List.set_cons_succ])); (refine wpAnyH_take (i := 8) (v := ?_) (by simp only [List.getElem?_toArray, List.getElem?_cons_succ, List.getElem?_cons_zero]; rfl) (by kernel_rfl) (by kernel_rfl) (by kernel_rfl) (by exact fun _ _ _ h => h) (Or.inl ⟨by rfl, ?_⟩) hHeld ?_; rotate_left; (focus (intro w hSw; (try dsimp only at hSw); go_simp; all_goals with_reducible rfl)); (try simp only [Act.put, List.setIfInBounds_toArray, List.set_cons_zero, List.set_cons_succ]))
  (refine wpAnyH_ready (rs := [4]) (by kernel_rfl) (by simp) ?_; refine AllReadyH.cons (by simp only [List.getElem?_toArray, List.getElem?_cons_succ, List.getElem?_cons_zero]; rfl) (fun K hK => ?_) AllReadyH.nil; go_simp); (refine (IL.out _ HD.out).mono ?_; rintro e w2 ⟨v0, rfl, hv0, hf⟩; replace c3 := cell_fr' hf c3 (fun h => h); replace c4 := cell_fr' hf c4 (fun h => h); have HF2 := Lib.hid (HD.out.trans hf); have HV0 := Lib.hid (Sl.base hv0 HD.out.size); clear hf hv0); (try go_wp2_with fail); (refine hK.out _ _ ⟨c3, c4⟩ (fun hHeld => ?_)); clear hK K; (try simp only [Act.put, List.setIfInBounds_toArray, List.set_cons_zero, List.set_cons_succ])
  (refine wpAnyH_ready (rs := [9]) (by kernel_rfl) (by simp) ?_; refine AllReadyH.cons (by simp only [List.getElem?_toArray, List.getElem?_cons_succ, List.getElem?_cons_zero]; rfl) (fun K hK => ?_) AllReadyH.nil; go_simp); (refine (IR.out _ HF2.out).mono ?_; rintro e w3 ⟨v1, rfl, hv1, hf⟩; replace c3 := cell_fr' hf c3 (fun h => h); replace c4 := cell_fr' hf c4 (fun h => h); have HF3 := Lib.hid (HF2.out.trans hf); have HV0' : Hid (Sl w3 w.heap.size v0 A) := (own_keep HV0.out hf (fun _ _ h => h)); have HV1 := Lib.hid (Sl.base hv1 HF2.out.size); clear hf hv1); (try go_wp2_with fail); (refine hK.out _ _ ⟨c3, c4⟩ (fun hHeld => ?_)); clear hK K; (try simp only [Act.put, List.setIfInBounds_toArray, List.set_cons_zero, List.set_cons_succ])
  (refine wpAnyH_take (i := 10) (v := ?_) (by simp only [List.getElem?_toArray, List.getElem?_cons_succ, List.getElem?_cons_zero]; rfl) (by kernel_rfl) (by kernel_rfl) (by kernel_rfl) (by exact fun _ _ _ h => h) (Or.inl ⟨by rfl, ?_⟩) hHeld ?_; rotate_left; (focus (intro w hSw; (try dsimp only at hSw); go_simp; all_goals with_reducible rfl)); (try simp only [Act.put, List.setIfInBounds_toArray, List.set_cons_zero, List.set_cons_succ])); (refine wpAnyH_take (i := 11) (v := ?_) (by simp only [List.getElem?_toArray, List.getElem?_cons_succ, List.getElem?_cons_zero]; rfl) (by kernel_rfl) (by kernel_rfl) (by kernel_rfl) (by exact fun _ _ _ h => h) (Or.inl ⟨by rfl, ?_⟩) hHeld ?_; rotate_left; (focus (intro w hSw; (try dsimp only at hSw); go_simp; all_goals with_reducible rfl)); (try simp only [Act.put, List.setIfInBounds_toArray, List.set_cons_zero, List.set_cons_succ]))
  (refine wpAnyH_done (by kernel_rfl) ?_ _)
  clear c3 c4 HV0 HD HF2 IL IR HLF
  have hb0 := HV0'.out.below
  have hb1 := HV1.out.below
  have HB0 := Lib.hid hb0; clear hb0; have HB1 := Lib.hid hb1; clear hb1
  obtain ⟨g0, q0, rfl, _, _, _⟩ := HV0'.out.any1 HPA.out
  go_wp2
  go_loopw [5, 28] (fun v i wx => WiRel A B (.slice (some ⟨g0, 0, none⟩) A.length q0) v1 w3.heap.size w v i wx) (fun _ i _ => A.length - (intOf i).toNat)
  case atStart => exact ⟨0, by omega, rfl, Sl.nil _ _, HV0'.out, HV1.out, HF3.out, Nat.le_refl _⟩
  case round =>
    obtain ⟨k, hk, rfl, hcv, ha, hb, hf, hN⟩ := hrel
    have hl7 := HLA.out
    by_cases hka : k < A.length
    · obtain ⟨g', q', e', _, _, hcell⟩ := ha.out.any1 HPA.out
      cases e'
      have ck := hcell k hka
      have htk := take_getD hka
      have hcs := Tb.common_snoc (A.take k) B (A.getD k 0)
      rw [← htk] at hcs
      generalize A.getD k 0 = x at *
      have HCS := Lib.hid hcs; clear hcs
      clear hcell htk
      by_cases hx : x ∈ B
      · have hd : decide (x ∈ B) = true := decide_eq_true hx
        have hcx : B.contains x = true := List.contains_iff_mem.2 hx
        have HD := Lib.hid hd; clear hd; have HCX := Lib.hid hcx; clear hcx
        clear hx
        go_wp2_with fail
        refine (Contains_any w.heap.size v1 B x _ (by have := HLB.out; omega) hb.out).mono ?_
        rw [HD.out]
        rintro e w4 ⟨rfl, rfl⟩
        go_wp2_with (at_builtin; go_loud (refine app_int rfl (.tmp 35) (.tmp 37) 64 rfl Tryz.underlying64 Tryz.info3 w3.heap.size u5 (Tb.common (A.take k) B) rfl (hcv.out.alloc _) ⟨wr.heap.size, 0, none⟩ x rfl (by simp) ?h1 ?h2 ?_))
        case h1 => have := HCL.out k; omega
        case h2 => have := hN.out; simp; omega
        · intro v' w4 h1 h2
          have hF4 := (Fr.refl NoB wr).alloc (.cells #[.int .i64 x] 3)
          have H1 : Hid (Sl w4 w3.heap.size v' (Tb.common (A.take (k + 1)) B)) := by show Sl _ _ _ _; rw [HCS.out, if_pos HCX.out]; exact h1
          have H2 : Hid (Sl w4 w.heap.size (.slice (some ⟨g0, 0, none⟩) A.length q0) A) := own_keep (ha.out.alloc _) h2 (fun g hg hg' => by have := HB0.out g hg; omega)
          have H3 : Hid (Sl w4 w.heap.size v1 B) := own_keep (hb.out.alloc _) h2 (fun g hg hg' => by have := HB1.out g hg; omega)
          have H4 : Hid (Fr NoB w w4) := (hf.out.alloc _).newer HF3.out.size h2
          have H5 : Hid (w3.heap.size ≤ w4.heap.size) := Nat.le_trans hN.out (Nat.le_trans hF4.size h2.size)
          clear h1 h2 hF4 ck
          go_wp2
          go_roundw
          case rel => exact ⟨k + 1, by omega, by go_num, H1, H2, H3, H4, H5⟩
          case measure => simp [intOf]; omega
      · have hd : decide (x ∈ B) = false := decide_eq_false hx
        have hcx : ¬ B.contains x = true := fun h => hx (List.contains_iff_mem.1 h)
        have H1 : Hid (Sl wr w3.heap.size u5 (Tb.common (A.take (k + 1)) B)) := by show Sl _ _ _ _; rw [HCS.out, if_neg hcx, List.append_nil]; exact hcv.out
        have HD := Lib.hid hd; clear hd
        clear hx hcx
        go_wp2_with fail
        refine (Contains_any w.heap.size v1 B x _ (by have := HLB.out; omega) hb.out).mono ?_
        rw [HD.out]
        rintro e w4 ⟨rfl, rfl⟩
        go_wp2
        go_roundw
        case rel => exact ⟨k + 1, by omega, by go_num, H1, ha, hb, hf, hN⟩
        case measure => simp [intOf]; omega
    · have hk' : k = A.length := by omega
      have hcv' : Hid (Sl wr w3.heap.size u5 (Tb.common A B)) := by have h := hcv.out; rw [hk', List.take_length] at h; exact h
      clear hcv
      by_cases hz : Tb.common A B = []
      · rw [hz] at hcv'
        have hv5 : u5 = .slice none 0 0 ∨ ∃ g c, u5 = .slice (some ⟨g, 0, none⟩) 0 c := by
          rcases hcv'.out.shape with ⟨h, _⟩ | ⟨g, c, h, _⟩
          · exact .inl h
          · exact .inr ⟨g, c, h⟩
        have HM := Lib.hid (fun l => HM2.out hz l)
        obtain ⟨q5, c5, rfl⟩ : ∃ q c, u5 = .slice q 0 c := by
          rcases hv5 with h | ⟨g, c, h⟩
          · exact ⟨_, _, h⟩
          · exact ⟨_, _, h⟩
        clear hv5 hz
        go_wp2_with fail
        refine (CloneI_any w.heap.size _ A _ (by have := HLA.out; omega) HPA.out ha.out).mono ?_
        rintro e w4 ⟨v2, rfl, hv2, hf2⟩
        obtain ⟨g2, q2, rfl, hg2, _, _⟩ := hv2.any1 HPA.out
        have hB2 : Sl w4 w.heap.size v1 B := own_keep hb.out hf2 (fun _ _ h => h)
        obtain ⟨g1, q1, rfl, hg1, _, hc1⟩ := hB2.any1 HPB.out
        have HN1 := Lib.hid (ints_news hc1)
        have hll : (B.map (Value.int .i64)).length = B.length * 1 := by rw [List.length_map, Nat.mul_one]
        have HF4 := Lib.hid (hf.out.trans hf2)
        have HS4 := Lib.hid (show wr.heap.size ≤ w4.heap.size from hf2.size)
        have HV2 := Lib.hid hv2; clear hv2; have HLL := Lib.hid hll; clear hll
        clear hf2 hB2 hc1
        go_wp2_with (at_builtin; refine app_own rfl _ _ 64 3 1 8 _ rfl Tryz.underlying64 Tryz.info3 rfl (by omega) wr.heap.size (.slice (some ⟨g2, 0, none⟩) A.length q2) A.length _ rfl HV2.out ⟨g1, 0, none⟩ B.length q1 (B.map (Value.int .i64)) rfl HLL.out HN1.out (ints_one _) (by have := HLA.out; have := HLB.out; omega) (by omega) HS4.out ?_; intro v3 w5 hv3 hf3)
        have hv4 : Sl w5 wr.heap.size v3 (A ++ B) := by
          unfold Sl
          rw [List.map_append, List.length_append]
          exact hv3
        have HF5 := Lib.hid (HF4.out.ownB HV2.out hf.out.size hf3)
        have HV4 := Lib.hid hv4
        have HR := Lib.hid hf.out.size
        clear hv3 hf3 hv4
        go_wp2_with fail
        refine (SortI_any wr.heap.size v3 (A ++ B) _ (by have := HLA.out; have := HLB.out; rw [List.length_append]; omega) (by have := HPA.out; rw [List.length_append]; omega) HV4.out).mono ?_
        rintro e w6 ⟨rfl, ys, hp, hs, hv5, hf5⟩
        have hys := HM.out ys hp hs
        have HV5 := Lib.hid (Sl.base hv5 HR.out)
        have HF6 := Lib.hid (HF5.out.ownB HV4.out HR.out hf5)
        have HYS := Lib.hid hys; clear hys
        clear hp hs hv5 hf5
        go_wp2
        go_ret
        exact ⟨_, rfl, by rw [← HYS.out]; exact HV5.out, HF6.out⟩
      · have hM := HM1.out hz
        have hpos : 0 < (Tb.common A B).length := List.length_pos_iff.2 hz
        obtain ⟨g5, q5, rfl, _, _, _⟩ := hcv'.out.any1 hpos
        have hpi : (0 : Int) < ((Tb.common A B).length : Int) := by omega
        generalize Tb.common A B = K at *
        have HM := Lib.hid hM
        clear hM hz
        go_wp2
        go_ret
        exact ⟨_, rfl, by rw [← HM.out]; exact Sl.base hcv'.out HF3.out.size, hf.out⟩
theorem wish_any : ∀ T, WishSaid T
  | .leaf p x => wish_leaf p x
  | .node p l r => wish_node p l r (wish_any l) (wish_any r)
end Go.Proofs.YteedndapbfihaaaGreat
