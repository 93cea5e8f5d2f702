/- Walk: least.wish. -/
import Derived.Test.YtffoilacaffdgaaGreatDoorB7
import Derived.Deep.MidRow
import Derived.Test.YtffoilacaffdgaaGreatDoorB4
import Derived.Test.YtffoilacaffdgaaGreatDoorB3
import Derived.Test.YtffoilacaffdgaaGreatDoorB1
import Derived.Test.YtffoilacaffdgaaGreatDoorB6
import Derived.Laws.AppendOwnNone
import Derived.Test.YtffoilacaffdgaaGreatDoorB2
namespace Go.Proofs.YtffoilacaffdgaaGreatDoor
open Go.RowKit Go.Deep

def WishPost (T : Tb.Tr) (w : World) (e : Ending) (w' : World) : Prop := ∃ v, e = .returned v ∧ Sl w' w.heap.size v (Tb.W (Tb.wshT T)) ∧ Fr NoB w w'
def WishSaid (T : Tb.Tr) : Prop := ∀ (b : Nat) (w : World), TrAt w T b → Tb.HopT T → Calls Tryz.prog 147 #[.pointer (some ⟨b, 0, none⟩)] w (WishPost T w)
theorem one_int (w : World) (x : Int) : Sl (w.alloc (.cells #[.int .i64 x] 3)) w.heap.size (.slice (some ⟨w.heap.size, 0, none⟩) 1 1) [x] :=
  row_own (f := fun _ => .int .i64 x) (World.rowIs_alloc w #[.int .i64 x] 3 _ (by intro i hi; simp at hi; subst hi; rfl)) (Nat.le_refl _) (Nat.le_refl _) (by unfold maxLen; omega) rfl (fun k hk => by
    have : k = 0 := by omega
    subst this
    rfl)
theorem Sl.base {w : World} {b1 b2 : Nat} {v : Value} {xs : List Int} (h : Sl w b1 v xs) (hb : b2 ≤ b1) : Sl w b2 v xs := by
  refine ⟨h.1, ?_⟩
  rcases h.2 with h | ⟨g, cap, cur, h1, h2, h3⟩
  · exact .inl h
  · exact .inr ⟨g, cap, cur, h1, Nat.le_trans hb h2, h3⟩
theorem Sl.below {w : World} {b : Nat} {v : Value} {xs : List Int} (h : Sl w b v xs) : ∀ g, v.ownBlock = some g → g < w.heap.size := fun g hg => (World.ownsRow.lt h g hg).2
set_option maxRecDepth 100000 in
set_option maxHeartbeats 4000000 in
theorem wish_leaf (p : Tb.Pf) (x : Int) : WishSaid (.leaf p x) := by
  intro b w ht hh
  obtain ⟨c0, c1, c2⟩ := ht.c01
  have e : Tb.W (Tb.wshT (.leaf p x)) = [x] := Tb.W_leaf hh
  have HE := Lib.hid e
  have HT := Lib.hid ht
  clear ht e hh
  dsimp only [Tb.Tr.root, Tb.Tr.hop0] at c0 c1 c2
  go_enter Tryz.func147, Tryz.ntmps147
  go_wp2_with fail
  refine (Leaf_any _ b _ HT.out).mono ?_
  rintro e w1 ⟨rfl, rfl⟩
  dsimp only [Tb.Tr.isLeaf]
  go_wp2
  go_ret
  refine ⟨_, rfl, ?_, (Fr.refl _ _).alloc _⟩
  rw [HE.out]
  exact one_int w x
/-- What stands in the loop of wish. -/
def WiRel (A B : List Int) (v0 v1 : Value) (N : Nat) (w : World) (v i : Value) (wr : World) : Prop :=
  ∃ k : Nat, k ≤ A.length ∧ i = .int .i64 k ∧ Hid (Sl wr N v (Tb.common (A.take k) B)) ∧ Hid (Sl wr w.heap.size v0 A) ∧ Hid (Sl wr w.heap.size v1 B) ∧ Hid (Fr NoB w wr) ∧ Hid (N ≤ wr.heap.size)
theorem take_getD {A : List Int} {k : Nat} (h : k < A.length) : A.take (k + 1) = A.take k ++ [A.getD k 0] := by
  rw [List.take_succ_eq_append_getElem h, List.getD_eq_getElem?_getD, List.getElem?_eq_getElem h]
  rfl
theorem Fr.newer {a w w' : World} {N : Nat} (h : Fr NoB a w) (hN : a.heap.size ≤ N) (k : Fr (fun i => N ≤ i) w w') : Fr NoB a w' := h.trans' k (fun i hi hi' => by omega)
set_option maxRecDepth 100000 in
set_option maxHeartbeats 16000000 in
theorem wish_node (p : Tb.Pf) (tl tr : Tb.Tr) (IHL : WishSaid tl) (IHR : WishSaid tr) : WishSaid (.node p tl tr) := by
  intro b w ht hh
  have hlf := Leaf_any _ b _ ht
  obtain ⟨bl, br, hn, hl, hr⟩ := ht
  have c3 := hn.c3
  have c4 := hn.c4
  have ihl := fun W (hW : Fr NoB w W) => IHL bl W (hl.keep0 hW) hh.1
  have ihr := fun W (hW : Fr NoB w W) => IHR br W (hr.keep0 hW) hh.2
  have wl := Tb.wshT_wish tl hh.1
  have wr := Tb.wshT_wish tr hh.2
  show Calls Tryz.prog 147 _ w (fun e w' => ∃ v, e = .returned v ∧ Sl w' w.heap.size v (Tb.W (Tb.mix (Tb.wshT tl) (Tb.wshT tr))) ∧ Fr NoB w w')
  unfold WishPost at ihl ihr
  have hpa := Tb.W_pos wl
  have hpb := Tb.W_pos wr
  have hla := Tb.W_len (Tb.wshT tl)
  have hlb := Tb.W_len (Tb.wshT tr)
  have hm1 := Tb.mix_common wl wr
  have hm2 := fun h l => Tb.mix_union wl wr h (l := l)
  generalize Tb.W (Tb.mix (Tb.wshT tl) (Tb.wshT tr)) = M at *
  generalize Tb.W (Tb.wshT tl) = A at *
  generalize Tb.W (Tb.wshT tr) = B at *
  have hcl : ∀ k, (Tb.common (A.take k) B).length ≤ 7 := fun k => by
    have h1 : (Tb.common (A.take k) B).length ≤ (A.take k).length := List.length_filter_le _ _
    rw [List.length_take] at h1
    omega
  have IL := Lib.hid ihl; clear ihl; have IR := Lib.hid ihr; clear ihr; have HLF := Lib.hid hlf; clear hlf; have HPA := Lib.hid hpa; clear hpa; have HPB := Lib.hid hpb; clear hpb; have HLA := Lib.hid hla; clear hla; have HLB := Lib.hid hlb; clear hlb; have HM1 := Lib.hid hm1; clear hm1; have HM2 := Lib.hid hm2; clear hm2; have HCL := Lib.hid hcl; clear hcl
  clear hn hl hr IHL IHR hh wl wr
  go_enter Tryz.func147, Tryz.ntmps147
  go_wp2_with fail
  refine HLF.out.mono ?_
  rintro e w1 ⟨rfl, rfl⟩
  dsimp only [Tb.Tr.isLeaf]
  go_upto_region 3 with fail
  have HD := Lib.hid (Fr.drew (Fr.refl NoB w))
  (refine wp_region_held_drew (S := (fun W => W.cell? ⟨b, 3, none⟩ = some (.pointer (some ⟨bl, 0, none⟩)) ∧ W.cell? ⟨b, 4, none⟩ = some (.pointer (some ⟨br, 0, none⟩)))) (by kernel_rfl) ⟨c3, c4⟩ (fun hHeld => ?_))
  (refine wpAnyH_take (i := 0) (v := ?_) (by simp only [List.getElem?_toArray, List.getElem?_cons_zero]; rfl) (by kernel_rfl) (by kernel_rfl) (by kernel_rfl) (by exact fun _ _ _ h => h) (Or.inl ⟨by rfl, ?_⟩) hHeld ?_; rotate_left; (focus (intro w hSw; (try dsimp only at hSw); go_simp; all_goals with_reducible rfl)); (try simp only [Act.put, List.setIfInBounds_toArray, List.set_cons_zero, List.set_cons_succ])); (refine wpAnyH_take (i := 1) (v := ?_) (by simp only [List.getElem?_toArray, List.getElem?_cons_succ, List.getElem?_cons_zero]; rfl) (by kernel_rfl) (by kernel_rfl) (by kernel_rfl) (by exact fun _ _ _ h => h) (Or.inl ⟨by rfl, ?_⟩) hHeld ?_; rotate_left; (focus (intro w hSw; (try dsimp only at hSw); go_simp; all_goals with_reducible rfl)); (try simp only [Act.put, List.setIfInBounds_toArray, List.set_cons_zero, List.set_cons_succ])); (refine wpAnyH_take (i := 2) (v := ?_) (by simp only [List.getElem?_toArray, List.getElem?_cons_succ, List.getElem?_cons_zero]; rfl) (by kernel_rfl) (by kernel_rfl) (by kernel_rfl) (by exact fun _ _ _ h => h) (Or.inl ⟨by rfl, ?_⟩) hHeld ?_; rotate_left; (focus (intro w hSw; (try dsimp only at hSw); go_simp; all_goals with_reducible rfl)); (try simp only [Act.put, List.setIfInBounds_toArray, List.set_cons_zero, List.set_cons_succ])); (refine wpAnyH_take (i := 3) (v := ?_) (by simp only [List.getElem?_toArray, List.getElem?_cons_succ, List.getElem?_cons_zero]; rfl) (by kernel_rfl) (by kernel_rfl) (by kernel_rfl) (by exact fun _ _ _ h => h) (Or.inl ⟨by rfl, ?_⟩) hHeld ?_; rotate_left; (focus (intro w hSw; (try dsimp only at hSw); go_simp; all_goals with_reducible rfl)); (try simp only [Act.put, List.setIfInBounds_toArray, List.set_cons_zero, List.set_cons_succ])); (refine wpAnyH_take (i := 5) (v := ?_) (by simp only [List.getElem?_toArray, List.getElem?_cons_succ, List.getElem?_cons_zero]; rfl) (by kernel_rfl) (by kernel_rfl) (by kernel_rfl) (by exact fun _ _ _ h => h) (Or.inl ⟨by rfl, ?_⟩) hHeld ?_; rotate_left; (focus (intro w hSw; (try dsimp only at hSw); go_simp; all_goals with_reducible rfl)); (try simp only [Act.put, List.setIfInBounds_toArray, List.set_cons_zero, List.set_cons_succ])); (refine wpAnyH_take (i := 6) (v := ?_) (by simp only [List.getElem?_toArray, List.getElem?_cons_succ, List.getElem?_cons_zero]; rfl) (by kernel_rfl) (by kernel_rfl) (by kernel_rfl) (by exact fun _ _ _ h => h) (Or.inl ⟨by rfl, ?_⟩) hHeld ?_; rotate_left; (focus (intro w hSw; (try dsimp only at hSw); go_simp; all_goals with_reducible rfl)); (try simp only [Act.put, List.setIfInBounds_toArray, List.set_cons_zero, List.set_cons_succ])); (refine wpAnyH_take (i := 7) (v := ?_) (by simp only [List.getElem?_toArray, List.getElem?_cons_succ, List.getElem?_cons_zero]; rfl) (by kernel_rfl) (by kernel_rfl) (by kernel_rfl) (by exact fun _ _ _ h => h) (Or.inl ⟨by rfl, ?_⟩) hHeld ?_; rotate_left; (focus (intro w hSw; (try dsimp only at hSw); go_simp; all_goals with_reducible rfl)); (try simp only [Act.put, List.setIfInBounds_toArray, List.set_cons_zero, List.set_cons_succ])); (refine wpAnyH_take (i := 8) (v := ?_) (by simp only [List.getElem?_toArray, List.getElem?_cons_succ, List.getElem?_cons_zero]; rfl) (by kernel_rfl) (by kernel_rfl) (by kernel_rfl) (by exact fun _ _ _ h => h) (Or.inl ⟨by rfl, ?_⟩) hHeld ?_; rotate_left; (focus (intro w hSw; (try dsimp only at hSw); go_simp; all_goals with_reducible rfl)); (try simp only [Act.put, List.setIfInBounds_toArray, List.set_cons_zero, List.set_cons_succ]))
  (refine wpAnyH_ready (rs := [4]) (by kernel_rfl) (by simp) ?_; refine AllReadyH.cons (by simp only [List.getElem?_toArray, List.getElem?_cons_succ, List.getElem?_cons_zero]; rfl) (fun K hK => ?_) AllReadyH.nil; go_simp); (refine (IL.out _ HD.out).mono ?_; rintro e w2 ⟨v0, rfl, hv0, hf⟩; replace c3 := cell_fr' hf c3 (fun h => h); replace c4 := cell_fr' hf c4 (fun h => h); have HF2 := Lib.hid (HD.out.trans hf); have HV0 := Lib.hid (Sl.base hv0 HD.out.size); clear hf hv0); (try go_wp2_with fail); (refine hK.out _ _ ⟨c3, c4⟩ (fun hHeld => ?_)); clear hK K; (try simp only [Act.put, List.setIfInBounds_toArray, List.set_cons_zero, List.set_cons_succ])
  (refine wpAnyH_ready (rs := [9]) (by kernel_rfl) (by simp) ?_; refine AllReadyH.cons (by simp only [List.getElem?_toArray, List.getElem?_cons_succ, List.getElem?_cons_zero]; rfl) (fun K hK => ?_) AllReadyH.nil; go_simp); (refine (IR.out _ HF2.out).mono ?_; rintro e w3 ⟨v1, rfl, hv1, hf⟩; replace c3 := cell_fr' hf c3 (fun h => h); replace c4 := cell_fr' hf c4 (fun h => h); have HF3 := Lib.hid (HF2.out.trans hf); have HV0' : Hid (Sl w3 w.heap.size v0 A) := (own_keep HV0.out hf (fun _ _ h => h)); have HV1 := Lib.hid (Sl.base hv1 HF2.out.size); clear hf hv1); (try go_wp2_with fail); (refine hK.out _ _ ⟨c3, c4⟩ (fun hHeld => ?_)); clear hK K; (try simp only [Act.put, List.setIfInBounds_toArray, List.set_cons_zero, List.set_cons_succ])
  (refine wpAnyH_take (i := 10) (v := ?_) (by simp only [List.getElem?_toArray, List.getElem?_cons_succ, List.getElem?_cons_zero]; rfl) (by kernel_rfl) (by kernel_rfl) (by kernel_rfl) (by exact fun _ _ _ h => h) (Or.inl ⟨by rfl, ?_⟩) hHeld ?_; rotate_left; (focus (intro w hSw; (try dsimp only at hSw); go_simp; all_goals with_reducible rfl)); (try simp only [Act.put, List.setIfInBounds_toArray, List.set_cons_zero, List.set_cons_succ])); (refine wpAnyH_take (i := 11) (v := ?_) (by simp only [List.getElem?_toArray, List.getElem?_cons_succ, List.getElem?_cons_zero]; rfl) (by kernel_rfl) (by kernel_rfl) (by kernel_rfl) (by exact fun _ _ _ h => h) (Or.inl ⟨by rfl, ?_⟩) hHeld ?_; rotate_left; (focus (intro w hSw; (try dsimp only at hSw); go_simp; all_goals with_reducible rfl)); (try simp only [Act.put, List.setIfInBounds_toArray, List.set_cons_zero, List.set_cons_succ]))
  (refine wpAnyH_done (by kernel_rfl) ?_ _)
  clear c3 c4 HV0 HD HF2 IL IR HLF
  have hb0 := HV0'.out.below
  have hb1 := HV1.out.below
  have HB0 := Lib.hid hb0; clear hb0; have HB1 := Lib.hid hb1; clear hb1
  obtain ⟨g0, q0, rfl, _, _, _⟩ := HV0'.out.any1 HPA.out
  go_wp2
  go_loopw [5, 28] (fun v i wx => WiRel A B (.slice (some ⟨g0, 0, none⟩) A.length q0) v1 w3.heap.size w v i wx) (fun _ i _ => A.length - (intOf i).toNat)
  case atStart => exact ⟨0, by omega, rfl, Sl.nil _ _, HV0'.out, HV1.out, HF3.out, Nat.le_refl _⟩
  case round =>
    obtain ⟨k, hk, rfl, hcv, ha, hb, hf, hN⟩ := hrel
    have hl7 := HLA.out
    by_cases hka : k < A.length
    · obtain ⟨g', q', e', _, _, hcell⟩ := ha.out.any1 HPA.out
      cases e'
      have ck := hcell k hka
      have htk := take_getD hka
      have hcs := Tb.common_snoc (A.take k) B (A.getD k 0)
      rw [← htk] at hcs
      generalize A.getD k 0 = x at *
      have HCS := Lib.hid hcs; clear hcs
      clear hcell htk
      by_cases hx : x ∈ B
      · have hd : decide (x ∈ B) = true := decide_eq_true hx
        have hcx : B.contains x = true := List.contains_iff_mem.2 hx
        have HD := Lib.hid hd; clear hd; have HCX := Lib.hid hcx; clear hcx
        clear hx
        go_wp2_with fail
        refine (Contains_any w.heap.size v1 B x _ (by have := HLB.out; omega) hb.out).mono ?_
        rw [HD.out]
        rintro e w4 ⟨rfl, rfl⟩
        go_wp2_with (at_builtin; go_loud (refine app_int rfl (.tmp 35) (.tmp 37) 76 rfl Tryz.underlying76 Tryz.info3 w3.heap.size u5 (Tb.common (A.take k) B) rfl (hcv.out.alloc _) ⟨wr.heap.size, 0, none⟩ x rfl (by simp) ?h1 ?h2 ?_))
        case h1 => have := HCL.out k; omega
        case h2 => have := hN.out; simp; omega
        · intro v' w4 h1 h2
          have hF4 := (Fr.refl NoB wr).alloc (.cells #[.int .i64 x] 3)
          have H1 : Hid (Sl w4 w3.heap.size v' (Tb.common (A.take (k + 1)) B)) := by show Sl _ _ _ _; rw [HCS.out, if_pos HCX.out]; exact h1
          have H2 : Hid (Sl w4 w.heap.size (.slice (some ⟨g0, 0, none⟩) A.length q0) A) := own_keep (ha.out.alloc _) h2 (fun g hg hg' => by have := HB0.out g hg; omega)
          have H3 : Hid (Sl w4 w.heap.size v1 B) := own_keep (hb.out.alloc _) h2 (fun g hg hg' => by have := HB1.out g hg; omega)
          have H4 : Hid (Fr NoB w w4) := (hf.out.alloc _).newer HF3.out.size h2
          have H5 : Hid (w3.heap.size ≤ w4.heap.size) := Nat.le_trans hN.out (Nat.le_trans hF4.size h2.size)
          clear h1 h2 hF4 ck
          go_wp2
          go_roundw
          case rel => exact ⟨k + 1, by omega, by go_num, H1, H2, H3, H4, H5⟩
          case measure => simp [intOf]; omega
      · have hd : decide (x ∈ B) = false := decide_eq_false hx
        have hcx : ¬ B.contains x = true := fun h => hx (List.contains_iff_mem.1 h)
        have H1 : Hid (Sl wr w3.heap.size u5 (Tb.common (A.take (k + 1)) B)) := by show Sl _ _ _ _; rw [HCS.out, if_neg hcx, List.append_nil]; exact hcv.out
        have HD := Lib.hid hd; clear hd
        clear hx hcx
        go_wp2_with fail
        refine (Contains_any w.heap.size v1 B x _ (by have := HLB.out; omega) hb.out).mono ?_
        rw [HD.out]
        rintro e w4 ⟨rfl, rfl⟩
        go_wp2
        go_roundw
        case rel => exact ⟨k + 1, by omega, by go_num, H1, ha, hb, hf, hN⟩
        case measure => simp [intOf]; omega
    · have hk' : k = A.length := by omega
      have hcv' : Hid (Sl wr w3.heap.size u5 (Tb.common A B)) := by have h := hcv.out; rw [hk', List.take_length] at h; exact h
      clear hcv
      by_cases hz : Tb.common A B = []
      · rw [hz] at hcv'
        have hv5 : u5 = .slice none 0 0 ∨ ∃ g c, u5 = .slice (some ⟨g, 0, none⟩) 0 c := by
          rcases hcv'.out.shape with ⟨h, _⟩ | ⟨g, c, h, _⟩
          · exact .inl h
          · exact .inr ⟨g, c, h⟩
        have HM := Lib.hid (fun l => HM2.out hz l)
        obtain ⟨q5, c5, rfl⟩ : ∃ q c, u5 = .slice q 0 c := by
          rcases hv5 with h | ⟨g, c, h⟩
          · exact ⟨_, _, h⟩
          · exact ⟨_, _, h⟩
        clear hv5 hz
        go_wp2_with fail
        refine (CloneI_any w.heap.size _ A _ (by have := HLA.out; omega) HPA.out ha.out).mono ?_
        rintro e w4 ⟨v2, rfl, hv2, hf2⟩
        obtain ⟨g2, q2, rfl, hg2, _, _⟩ := hv2.any1 HPA.out
        have hB2 : Sl w4 w.heap.size v1 B := own_keep hb.out hf2 (fun _ _ h => h)
        obtain ⟨g1, q1, rfl, hg1, _, hc1⟩ := hB2.any1 HPB.out
        have HN1 := Lib.hid (ints_news hc1)
        have hll : (B.map (Value.int .i64)).length = B.length * 1 := by rw [List.length_map, Nat.mul_one]
        have HF4 := Lib.hid (hf.out.trans hf2)
        have HS4 := Lib.hid (show wr.heap.size ≤ w4.heap.size from hf2.size)
        have HV2 := Lib.hid hv2; clear hv2; have HLL := Lib.hid hll; clear hll
        clear hf2 hB2 hc1
        go_wp2_with (at_builtin; refine app_own rfl _ _ 76 3 1 8 _ rfl Tryz.underlying76 Tryz.info3 rfl (by omega) wr.heap.size (.slice (some ⟨g2, 0, none⟩) A.length q2) A.length _ rfl HV2.out ⟨g1, 0, none⟩ B.length q1 (B.map (Value.int .i64)) rfl HLL.out HN1.out (ints_one _) (by have := HLA.out; have := HLB.out; omega) (by omega) HS4.out ?_; intro v3 w5 hv3 hf3)
        have hv4 : Sl w5 wr.heap.size v3 (A ++ B) := by
          unfold Sl
          rw [List.map_append, List.length_append]
          exact hv3
        have HF5 := Lib.hid (HF4.out.ownB HV2.out hf.out.size hf3)
        have HV4 := Lib.hid hv4
        have HR := Lib.hid hf.out.size
        clear hv3 hf3 hv4
        go_wp2_with fail
        refine (SortI_any wr.heap.size v3 (A ++ B) _ (by have := HLA.out; have := HLB.out; rw [List.length_append]; omega) (by have := HPA.out; rw [List.length_append]; omega) HV4.out).mono ?_
        rintro e w6 ⟨rfl, ys, hp, hs, hv5, hf5⟩
        have hys := HM.out ys hp hs
        have HV5 := Lib.hid (Sl.base hv5 HR.out)
        have HF6 := Lib.hid (HF5.out.ownB HV4.out HR.out hf5)
        have HYS := Lib.hid hys; clear hys
        clear hp hs hv5 hf5
        go_wp2
        go_ret
        exact ⟨_, rfl, by rw [← HYS.out]; exact HV5.out, HF6.out⟩
      · have hM := HM1.out hz
        have hpos : 0 < (Tb.common A B).length := List.length_pos_iff.2 hz
        obtain ⟨g5, q5, rfl, _, _, _⟩ := hcv'.out.any1 hpos
        have hpi : (0 : Int) < ((Tb.common A B).length : Int) := by omega
        generalize Tb.common A B = K at *
        have HM := Lib.hid hM
        clear hM hz
        go_wp2
        go_ret
        exact ⟨_, rfl, by rw [← HM.out]; exact Sl.base hcv'.out HF3.out.size, hf.out⟩
theorem wish_any : ∀ T, WishSaid T
  | .leaf p x => wish_leaf p x
  | .node p l r => wish_node p l r (wish_any l) (wish_any r)
end Go.Proofs.YtffoilacaffdgaaGreatDoor
/- Walk: (*maker).lay. -/
namespace Go.Proofs.YtffoilacaffdgaaGreatDoor
open Go.RowKit Go.Deep

/-- A maker in memory: its routes lie in a block of their own, behind N. -/
structure MkAt (w : World) (m N : Nat) (v : Value) (L : List Tb.Rt) : Prop where
  row : w.rowIs m 191 1 (fun _ => v)
  sl : SlR w N v L
  lt : m < N
theorem MkAt.c0 {w : World} {m N : Nat} {v : Value} {L : List Tb.Rt} (h : MkAt w m N v L) : w.cell? ⟨m, 0, none⟩ = some v := World.rowIs.cell h.row (i := 0) (by omega)
theorem MkAt.keep0 {w w' : World} {m N : Nat} {v : Value} {L : List Tb.Rt} (h : MkAt w m N v L) (hf : Fr NoB w w') : MkAt w' m N v L := ⟨hf.row h.row (fun h => h), own_keep h.sl hf (fun _ _ h => h), h.lt⟩
theorem SlR.from' {w : World} {N : Nat} {v : Value} {L : List Tb.Rt} (h : SlR w N v L) : ∀ g, v.ownBlock = some g → N ≤ g := fun g hg => (World.ownsRow.lt h g hg).1
theorem MkAt.store {w w' : World} {m N : Nat} {v v' : Value} {L L' : List Tb.Rt} (h : MkAt w m N v L) (hv : SlR w' N v' L') (hf : Fr (fun k => v.ownBlock = some k) w w') : MkAt (w'.setCell ⟨m, 0, none⟩ v') m N v' L' := by
  have hm := h.lt
  have hr := hf.row h.row (fun e => by have := h.sl.from' m e; omega)
  exact ⟨(World.rowIs.set hr 0 v').congr (fun i hi => by rw [if_pos (by omega)]), own_keep hv ((Fr.refl (OneB m) _).set1 _ _) (fun g hg e => by unfold OneB at e; have := hv.from' g hg; omega), hm⟩
/-- What laying may turn: the maker, and what lies behind N. -/
def MN (m N : Nat) : Nat → Prop := fun k => k = m ∨ N ≤ k
/-- A trie in memory, apart from the maker. -/
def TrM (w : World) (m N : Nat) : Tb.Tr → Nat → Prop
  | .leaf p h, b => N5 w b p h (.pointer none) (.pointer none) ∧ b < N ∧ b ≠ m
  | .node p l r, b => ∃ bl br, (N5 w b p 0 (.pointer (some ⟨bl, 0, none⟩)) (.pointer (some ⟨br, 0, none⟩)) ∧ b < N ∧ b ≠ m) ∧ TrM w m N l bl ∧ TrM w m N r br
theorem TrM.at_ {w : World} {m N : Nat} : ∀ {T : Tb.Tr} {b : Nat}, TrM w m N T b → TrAt w T b
  | .leaf _ _, _, h => h.1
  | .node _ _ _, _, ⟨bl, br, h, hl, hr⟩ => ⟨bl, br, h.1, hl.at_, hr.at_⟩
theorem N5.keepS {S : Nat → Prop} {w w' : World} {b : Nat} {p : Tb.Pf} {h : Int} {lo hi : Value} (k : N5 w b p h lo hi) (hf : Fr S w w') (hS : ¬ S b) : N5 w' b p h lo hi :=
  ⟨cell_fr' hf k.c0 hS, cell_fr' hf k.c1 hS, cell_fr' hf k.c2 hS, cell_fr' hf k.c3 hS, cell_fr' hf k.c4 hS⟩
theorem TrM.keep {w w' : World} {m N : Nat} (hf : Fr (MN m N) w w') : ∀ {T : Tb.Tr} {b : Nat}, TrM w m N T b → TrM w' m N T b
  | .leaf _ _, _, h => ⟨h.1.keepS hf (fun k => by rcases k with k | k; exact h.2.2 k; have := h.2.1; omega), h.2⟩
  | .node _ _ _, _, ⟨bl, br, h, hl, hr⟩ => ⟨bl, br, ⟨h.1.keepS hf (fun k => by rcases k with k | k; exact h.2.2 k; have := h.2.1; omega), h.2⟩, hl.keep hf, hr.keep hf⟩
theorem N5.apart {w : World} {b m N : Nat} {p : Tb.Pf} {h : Int} {lo hi v : Value} (k : N5 w b p h lo hi) (hm : w.cell? ⟨m, 0, none⟩ = some v) (hv : ∀ x, v ≠ .int .i64 x) (hN : w.heap.size ≤ N) : b < N ∧ b ≠ m := by
  refine ⟨Nat.lt_of_lt_of_le (World.block_lt_of_cell? w _ k.c0) hN, fun e => ?_⟩
  rw [← e, k.c0] at hm
  exact hv _ (Option.some.inj hm).symm
theorem TrM.of {w : World} {m N : Nat} {v : Value} (hm : w.cell? ⟨m, 0, none⟩ = some v) (hv : ∀ x, v ≠ .int .i64 x) (hN : w.heap.size ≤ N) : ∀ {T : Tb.Tr} {b : Nat}, TrAt w T b → TrM w m N T b
  | .leaf _ _, _, h => ⟨h, N5.apart h hm hv hN⟩
  | .node _ _ _, _, ⟨bl, br, h, hl, hr⟩ => ⟨bl, br, ⟨h, h.apart hm hv hN⟩, TrM.of hm hv hN hl, TrM.of hm hv hN hr⟩
theorem Fr.mn {w w' : World} {m N : Nat} (h : Fr NoB w w') : Fr (MN m N) w w' := h.mono (fun _ _ h => h.elim)
def LayPost (m N : Nat) (L : List Tb.Rt) (w : World) (e : Ending) (w' : World) : Prop := e = .returned (.tuple #[]) ∧ ∃ v, MkAt w' m N v L ∧ Fr (MN m N) w w'
def LaySaid (T : Tb.Tr) : Prop := ∀ (b m N : Nat) (v : Value) (L : List Tb.Rt) (h : Int) (w : World), TrM w m N T b → Tb.HopT T → MkAt w m N v L → N ≤ w.heap.size → L.length + (Tb.layT T h).length ≤ 1000 →
    Calls Tryz.prog 116 #[.pointer (some ⟨m, 0, none⟩), .pointer (some ⟨b, 0, none⟩), .int .i64 h] w (LayPost m N (L ++ Tb.layT T h) w)
def CutLay (T : Tb.Tr) (b m N : Nat) (L : List Tb.Rt) (h : Int) (w : World) (s : Value) (wx : World) : Prop :=
  s = .int .i64 (Tb.pick (Tb.wshT T) h) ∧ ∃ v, Hid (MkAt wx m N v (L ++ Tb.made (Tb.wshT T) T.root h)) ∧ Hid (TrM wx m N T b) ∧ Hid (Fr (MN m N) w wx) ∧ Hid (N ≤ wx.heap.size)
theorem TrM.c01 {w : World} {m N : Nat} {T : Tb.Tr} {b : Nat} (h : TrM w m N T b) : w.cell? ⟨b, 0, none⟩ = some (.int .i64 T.root.len) ∧ w.cell? ⟨b, 1, none⟩ = some (.int .i64 T.root.bits) ∧ b < N ∧ b ≠ m := by
  cases T with
  | leaf p x => exact ⟨h.1.c0, h.1.c1, h.2⟩
  | node p l r => obtain ⟨bl, br, h, _, _⟩ := h; exact ⟨h.1.c0, h.1.c1, h.2⟩
set_option maxRecDepth 100000 in
set_option maxHeartbeats 16000000 in
theorem lay_step (T : Tb.Tr) (IH : ∀ p l r, T = .node p l r → LaySaid l ∧ LaySaid r) : LaySaid T := by
  intro b m N v L h w hT hh hM hN hlen
  have wT := Tb.wshT_wish T hh
  obtain ⟨c0, c1, hbN, hbm⟩ := hT.c01
  have hwish := fun W (hW : Fr NoB w W) => wish_any T b W (hT.at_.keep0 hW) hh
  unfold WishPost at hwish
  have hlf := fun W (h : TrM W m N T b) => Leaf_any T b W h.at_
  have hpos := Tb.W_pos wT
  have hwl := Tb.W_len (Tb.wshT T)
  have hhd := Tb.W_head (f := Tb.wshT T)
  have hmem := fun x => Tb.W_mem wT (h := x)
  have hll : L.length ≤ 1000 := by omega
  obtain ⟨tl, tb, htr⟩ : ∃ a b, T.root = ⟨a, b⟩ := ⟨_, _, rfl⟩
  rw [htr] at c0 c1
  dsimp only at c0 c1
  obtain ⟨f, hf⟩ : ∃ f, f = Tb.wshT T := ⟨_, rfl⟩
  rw [← hf] at hwish hpos hwl hhd hmem
  obtain ⟨A, hA⟩ : ∃ A, A = Tb.W f := ⟨_, rfl⟩
  rw [← hA] at hwish hpos hwl hhd
  have hmem : ∀ x, x ∈ A ↔ f x = true := fun x => by rw [hA]; exact hmem x
  have HT := Lib.hid hT; clear hT; have HM0 := Lib.hid hM; clear hM; have HN := Lib.hid hN; clear hN; have HLN := Lib.hid hlen; clear hlen; have HLL := Lib.hid hll; clear hll; have WT := Lib.hid wT; clear wT; have HBN := Lib.hid hbN; clear hbN; have HBM := Lib.hid hbm; clear hbm; have HW := Lib.hid hwish; clear hwish; have HLF := Lib.hid hlf; clear hlf; have HPOS := Lib.hid hpos; clear hpos; have HWL := Lib.hid hwl; clear hwl; have HHD := Lib.hid hhd; clear hhd; have HMEM := Lib.hid hmem; clear hmem; have HTR := Lib.hid htr; clear htr; have HFE := Lib.hid hf; clear hf; have HAE := Lib.hid hA; clear hA; have HH := Lib.hid hh; clear hh; have IHH := Lib.hid IH; clear IH
  go_enter Tryz.func116, Tryz.ntmps116
  go_wp2_with fail
  refine (HW.out _ (Fr.refl _ _)).mono ?_
  rintro e w2 ⟨v1, rfl, hv1, hf2⟩
  obtain ⟨g1, q1, rfl, _, _, hc1⟩ := hv1.any1 HPOS.out
  have c0 := cell_fr' hf2 c0 (fun h => h)
  have c1 := cell_fr' hf2 c1 (fun h => h)
  have HM := Lib.hid (HM0.out.keep0 hf2)
  have cm := HM.out.c0
  have ca := hc1 0 HPOS.out
  rw [HHD.out] at ca
  have HT2 := Lib.hid (HT.out.keep hf2.mn)
  have HN2 : Hid (N ≤ w2.heap.size) := Nat.le_trans HN.out hf2.size
  have HV1 := Lib.hid hv1; clear hv1; have HF2 := Lib.hid hf2; clear hf2
  clear hc1 HM0 HW
  obtain ⟨d, hd⟩ : ∃ d, decide (h ∈ A) = d := ⟨_, rfl⟩
  have HD := Lib.hid hd
  clear hd
  go_wp2_with fail
  refine (Contains_any w.heap.size _ A h _ (by have := HWL.out; omega) HV1.out).mono ?_
  rw [HD.out]
  rintro e w3 ⟨rfl, rfl⟩
  go_upto_if 12 with fail
  go_cut [2] (fun s wx => CutLay T b m N L h w s wx)
  case first =>
    by_cases hx : f h = true
    · have hd : d = true := by rw [← HD.out]; exact decide_eq_true ((HMEM.out h).2 hx)
      have hpk : Tb.pick (Tb.wshT T) h = h := by rw [← HFE.out]; unfold Tb.pick; rw [if_pos hx]
      have hmd : Tb.made (Tb.wshT T) T.root h = [] := by rw [← HFE.out]; unfold Tb.made; rw [if_pos hx]
      subst hd
      have HPK := Lib.hid hpk; clear hpk; have HMD := Lib.hid hmd; clear hmd
      clear hx
      go_wp2_with fail
      go_meet
      exact ⟨by rw [HPK.out], v, by show MkAt _ m N v (L ++ Tb.made (Tb.wshT T) T.root h); rw [HMD.out, List.append_nil]; exact HM.out, HT2, HF2.out.mn, HN2⟩
    · have hd : d = false := by rw [← HD.out]; exact decide_eq_false (fun k => hx ((HMEM.out h).1 k))
      have hpk : Tb.pick (Tb.wshT T) h = Tb.fstW f := by rw [← HFE.out]; unfold Tb.pick; rw [if_neg hx]
      have hmd : Tb.made (Tb.wshT T) T.root h = [⟨⟨tl, tb⟩, Tb.fstW f⟩] := by rw [← HFE.out, HTR.out]; unfold Tb.made; rw [if_neg hx]
      have hpi : (0 : Int) < (A.length : Int) := by have := HPOS.out; omega
      have hpn : 0 < A.length := HPOS.out
      subst hd
      have HPK := Lib.hid hpk; clear hpk; have HMD := Lib.hid hmd; clear hmd
      clear hx
      go_upto_region 3 with fail
      (refine wp_region_held_drew (S := (fun W => W.cell? ⟨b, 0, none⟩ = some (.int .i64 tl) ∧ W.cell? ⟨b, 1, none⟩ = some (.int .i64 tb))) (by kernel_rfl) ⟨c0, c1⟩ (fun hHeld => ?_))
      (refine wpAnyH_take (i := 0) (v := ?_) (by simp only [List.getElem?_toArray, List.getElem?_cons_zero]; rfl) (by kernel_rfl) (by kernel_rfl) (by kernel_rfl) (by exact fun _ _ _ h => h) (Or.inl ⟨by rfl, ?_⟩) hHeld ?_; rotate_left; (focus (intro w hSw; (try dsimp only at hSw); go_simp; all_goals with_reducible rfl)); (try simp only [Act.put, List.setIfInBounds_toArray, List.set_cons_zero, List.set_cons_succ])); (refine wpAnyH_take (i := 1) (v := ?_) (by simp only [List.getElem?_toArray, List.getElem?_cons_succ, List.getElem?_cons_zero]; rfl) (by kernel_rfl) (by kernel_rfl) (by kernel_rfl) (by exact fun _ _ _ h => h) (Or.inl ⟨by rfl, ?_⟩) hHeld ?_; rotate_left; (focus (intro w hSw; (try dsimp only at hSw); go_simp; all_goals with_reducible rfl)); (try simp only [Act.put, List.setIfInBounds_toArray, List.set_cons_zero, List.set_cons_succ])); (refine wpAnyH_take (i := 2) (v := ?_) (by simp only [List.getElem?_toArray, List.getElem?_cons_succ, List.getElem?_cons_zero]; rfl) (by kernel_rfl) (by kernel_rfl) (by kernel_rfl) (by exact fun _ _ _ h => h) (Or.inl ⟨by rfl, ?_⟩) hHeld ?_; rotate_left; (focus (intro w hSw; (try dsimp only at hSw); go_simp; all_goals with_reducible rfl)); (try simp only [Act.put, List.setIfInBounds_toArray, List.set_cons_zero, List.set_cons_succ])); (refine wpAnyH_take (i := 3) (v := ?_) (by simp only [List.getElem?_toArray, List.getElem?_cons_succ, List.getElem?_cons_zero]; rfl) (by kernel_rfl) (by kernel_rfl) (by kernel_rfl) (by exact fun _ _ _ h => h) (Or.inl ⟨by rfl, ?_⟩) hHeld ?_; rotate_left; (focus (intro w hSw; (try dsimp only at hSw); go_simp; all_goals with_reducible rfl)); (try simp only [Act.put, List.setIfInBounds_toArray, List.set_cons_zero, List.set_cons_succ])); (refine wpAnyH_take (i := 5) (v := ?_) (by simp only [List.getElem?_toArray, List.getElem?_cons_succ, List.getElem?_cons_zero]; rfl) (by kernel_rfl) (by kernel_rfl) (by kernel_rfl) (by exact fun _ _ _ h => h) (Or.inl ⟨by rfl, ?_⟩) hHeld ?_; rotate_left; (focus (intro w hSw; (try dsimp only at hSw); go_simp; all_goals with_reducible rfl)); (try simp only [Act.put, List.setIfInBounds_toArray, List.set_cons_zero, List.set_cons_succ])); (refine wpAnyH_take (i := 6) (v := ?_) (by simp only [List.getElem?_toArray, List.getElem?_cons_succ, List.getElem?_cons_zero]; rfl) (by kernel_rfl) (by kernel_rfl) (by kernel_rfl) (by exact fun _ _ _ h => h) (Or.inl ⟨by rfl, ?_⟩) hHeld ?_; rotate_left; (focus (intro w hSw; (try dsimp only at hSw); go_simp; all_goals with_reducible rfl)); (try simp only [Act.put, List.setIfInBounds_toArray, List.set_cons_zero, List.set_cons_succ])); (refine wpAnyH_take (i := 7) (v := ?_) (by simp only [List.getElem?_toArray, List.getElem?_cons_succ, List.getElem?_cons_zero]; rfl) (by kernel_rfl) (by kernel_rfl) (by kernel_rfl) (by exact fun _ _ _ h => h) (Or.inl ⟨by rfl, ?_⟩) hHeld ?_; rotate_left; (focus (intro w hSw; (try dsimp only at hSw); go_simp; all_goals with_reducible rfl)); (try simp only [Act.put, List.setIfInBounds_toArray, List.set_cons_zero, List.set_cons_succ])); (refine wpAnyH_take (i := 8) (v := ?_) (by simp only [List.getElem?_toArray, List.getElem?_cons_succ, List.getElem?_cons_zero]; rfl) (by kernel_rfl) (by kernel_rfl) (by kernel_rfl) (by exact fun _ _ _ h => h) (Or.inl ⟨by rfl, ?_⟩) hHeld ?_; rotate_left; (focus (intro w hSw; (try dsimp only at hSw); go_simp; all_goals with_reducible rfl)); (try simp only [Act.put, List.setIfInBounds_toArray, List.set_cons_zero, List.set_cons_succ])); (refine wpAnyH_take (i := 9) (v := ?_) (by simp only [List.getElem?_toArray, List.getElem?_cons_succ, List.getElem?_cons_zero]; rfl) (by kernel_rfl) (by kernel_rfl) (by kernel_rfl) (by exact fun _ _ _ h => h) (Or.inl ⟨by rfl, ?_⟩) hHeld ?_; rotate_left; (focus (intro w hSw; (try dsimp only at hSw); go_simp; all_goals with_reducible rfl)); (try simp only [Act.put, List.setIfInBounds_toArray, List.set_cons_zero, List.set_cons_succ])); (refine wpAnyH_take (i := 10) (v := ?_) (by simp only [List.getElem?_toArray, List.getElem?_cons_succ, List.getElem?_cons_zero]; rfl) (by kernel_rfl) (by kernel_rfl) (by kernel_rfl) (by exact fun _ _ _ h => h) (Or.inl ⟨by rfl, ?_⟩) hHeld ?_; rotate_left; (focus (intro w hSw; (try dsimp only at hSw); go_simp; all_goals with_reducible rfl)); (try simp only [Act.put, List.setIfInBounds_toArray, List.set_cons_zero, List.set_cons_succ]))
      refine wpAnyH_ready (rs := [4, 11]) (by kernel_rfl) (by simp) ?_
      refine AllReadyH.cons (by simp only [List.getElem?_toArray, List.getElem?_cons_succ, List.getElem?_cons_zero]; rfl) (fun K hK => ?_) (AllReadyH.cons (by simp only [List.getElem?_toArray, List.getElem?_cons_succ, List.getElem?_cons_zero]; rfl) (fun K hK => ?_) AllReadyH.nil)
      · go_simp
        (try go_wp2_with fail)
        refine hK.out _ _ ⟨c0, c1⟩ (fun hHeld => ?_)
        clear hK K
        (try simp only [Act.put, List.setIfInBounds_toArray, List.set_cons_zero, List.set_cons_succ])
        (refine wpAnyH_ready (rs := [11]) (by kernel_rfl) (by simp) ?_; refine AllReadyH.cons (by simp only [List.getElem?_toArray, List.getElem?_cons_succ, List.getElem?_cons_zero]; rfl) (fun K hK => ?_) AllReadyH.nil; go_simp); (skip); (try go_wp2_with fail); (refine hK.out _ _ ⟨cell_alloc c0 _, cell_alloc c1 _⟩ (fun hHeld => ?_)); clear hK K; (try simp only [Act.put, List.setIfInBounds_toArray, List.set_cons_zero, List.set_cons_succ])
        refine wpAnyH_name fun w4 hw4 => ?_
        rw [← hw4] at hHeld
        have hF : Fr NoB w2 w4 := by rw [hw4]; exact (Fr.refl _ _).drew.alloc _
        have hN3 : ∀ (j : Nat) (u : Value), (rt3 ⟨⟨tl, tb⟩, Tb.fstW f⟩)[j]? = some u → w4.cell? ((⟨w2.heap.size, 0, none⟩ : Addr).add j) = some u := by rw [hw4]; exact news3 w2.drew ⟨⟨tl, tb⟩, Tb.fstW f⟩
        clear hw4
        have q0 := cell_fr' hF c0 (fun h => h)
        have q1 := cell_fr' hF c1 (fun h => h)
        have HM4 := Lib.hid (HM.out.keep0 hF)
        have HN3 := Lib.hid hN3
        have HF4 := Lib.hid hF
        have HS4 : Hid (N ≤ w4.heap.size) := Nat.le_trans HN2.out hF.size
        clear hN3 hF
        refine wpAnyH_ready (rs := [12]) (by kernel_rfl) (by simp) ?_
        refine AllReadyH.cons (by simp only [List.getElem?_toArray, List.getElem?_cons_succ, List.getElem?_cons_zero]; rfl) (fun K hK => ?_) AllReadyH.nil
        refine step_own (by rfl) (.tmp 20) (.tmp 27) 68 134 3 24 (.agg #[.int .i64 0, .int .i64 0, .int .i64 0]) (by rfl) Tryz.underlying68 Tryz.info134 rfl (by omega) N v L.length _ (by rfl) HM4.out.sl ⟨w2.heap.size, 0, none⟩ 1 1 (rt3 ⟨⟨tl, tb⟩, Tb.fstW f⟩) (by rfl) rfl HN3.out (rt3_one _) (by have := HLL.out; omega) (by omega) HS4.out ?_
        intro v2 w5 hv2 hf5
        have hv3 : SlR w5 N v2 (L ++ [⟨⟨tl, tb⟩, Tb.fstW f⟩]) := SlR.app hv2
        have hnb : ∀ g, v.ownBlock = some g → g ≠ b := fun g hg => by have := HM4.out.sl.from' g hg; have := HBN.out; omega
        have hnm : ∀ g, v.ownBlock = some g → g ≠ m := fun g hg => by have := HM4.out.sl.from' g hg; have := HM4.out.lt; omega
        have x0 := cell_fr' hf5 q0 (fun h => hnb _ h rfl)
        have x1 := cell_fr' hf5 q1 (fun h => hnb _ h rfl)
        have xm := cell_fr' hf5 HM4.out.c0 (fun h => hnm _ h rfl)
        have xf := World.rowIs.frozen (hf5.row HM4.out.row (fun h => hnm _ h rfl)) 0
        have HST := Lib.hid (HM4.out.store hv3 hf5)
        have HFR : Hid (Fr (MN m N) w (w5.setCell ⟨m, 0, none⟩ v2)) := ((HF2.out.mn.trans HF4.out.mn).trans (hf5.mono (fun i _ hi => .inr (HM4.out.sl.from' i hi)))).setCell (p := ⟨m, 0, none⟩) (.inl (.inl rfl)) _
        have HS5 : Hid (N ≤ (w5.setCell ⟨m, 0, none⟩ v2).heap.size) := by show N ≤ _; have := hf5.size; have := HS4.out; simp [World.setCell]; omega
        have hbm' : b ≠ m := HBM.out
        obtain ⟨a5, q5, rfl, _⟩ := hv3.shape
        clear hv2 hf5 hv3 hnb hnm
        generalize (L ++ [(⟨⟨tl, tb⟩, Tb.fstW f⟩ : Tb.Rt)]).length = n5 at *
        refine hK.out _ _ ⟨x0, x1⟩ (fun hHeld => ?_)
        clear hK K
        (try simp only [Act.put, List.setIfInBounds_toArray, List.set_cons_zero, List.set_cons_succ])
        (refine wpAnyH_take (i := 13) (v := ?_) (by simp only [List.getElem?_toArray, List.getElem?_cons_succ, List.getElem?_cons_zero]; rfl) (by kernel_rfl) (by kernel_rfl) (by kernel_rfl) (by exact fun _ _ _ h => h) (Or.inl ⟨by rfl, ?_⟩) hHeld ?_; rotate_left; (focus (intro w hSw; (try dsimp only at hSw); go_simp; all_goals with_reducible rfl)); (try simp only [Act.put, List.setIfInBounds_toArray, List.set_cons_zero, List.set_cons_succ])); (refine wpAnyH_take (i := 14) (v := ?_) (by simp only [List.getElem?_toArray, List.getElem?_cons_succ, List.getElem?_cons_zero]; rfl) (by kernel_rfl) (by kernel_rfl) (by kernel_rfl) (by exact fun _ _ _ h => h) (Or.inl ⟨by rfl, ?_⟩) hHeld ?_; rotate_left; (focus (intro w hSw; (try dsimp only at hSw); go_simp; all_goals with_reducible rfl)); (try simp only [Act.put, List.setIfInBounds_toArray, List.set_cons_zero, List.set_cons_succ]))
        (refine wpAnyH_ready (rs := [15]) (by kernel_rfl) (by simp) ?_; refine AllReadyH.cons (by simp only [List.getElem?_toArray, List.getElem?_cons_succ, List.getElem?_cons_zero]; rfl) (fun K hK => ?_) AllReadyH.nil; go_simp); (skip); (try go_wp2_with fail); (refine hK.out _ _ ⟨cell_set x0 hbm', cell_set x1 hbm'⟩ (fun hHeld => ?_)); clear hK K; (try simp only [Act.put, List.setIfInBounds_toArray, List.set_cons_zero, List.set_cons_succ])
        (refine wpAnyH_done (by kernel_rfl) ?_ _)
        go_wp2_with fail
        go_meet
        exact ⟨by rw [HPK.out], _, by show MkAt _ m N _ (L ++ Tb.made (Tb.wshT T) T.root h); rw [HMD.out]; exact HST.out, TrM.keep HFR.out HT.out, HFR, HS5⟩
      · go_simp
        (try go_wp2_with fail)
        refine hK.out _ _ ⟨cell_alloc c0 _, cell_alloc c1 _⟩ (fun hHeld => ?_)
        clear hK K
        (try simp only [Act.put, List.setIfInBounds_toArray, List.set_cons_zero, List.set_cons_succ])
        refine wpAnyH_name fun w4 hw4 => ?_
        rw [← hw4] at hHeld
        have hF : Fr NoB w2 w4 := by rw [hw4]; exact (Fr.refl _ _).drew.alloc _
        have hN3 : ∀ (j : Nat) (u : Value), (rt3 ⟨⟨tl, tb⟩, Tb.fstW f⟩)[j]? = some u → w4.cell? ((⟨w2.heap.size, 0, none⟩ : Addr).add j) = some u := by rw [hw4]; exact news3 w2.drew ⟨⟨tl, tb⟩, Tb.fstW f⟩
        clear hw4
        have q0 := cell_fr' hF c0 (fun h => h)
        have q1 := cell_fr' hF c1 (fun h => h)
        have HM4 := Lib.hid (HM.out.keep0 hF)
        have HN3 := Lib.hid hN3
        have HF4 := Lib.hid hF
        have HS4 : Hid (N ≤ w4.heap.size) := Nat.le_trans HN2.out hF.size
        clear hN3 hF
        have cm4 := HM4.out.c0
        (refine wpAnyH_ready (rs := [4]) (by kernel_rfl) (by simp) ?_; refine AllReadyH.cons (by simp only [List.getElem?_toArray, List.getElem?_cons_succ, List.getElem?_cons_zero]; rfl) (fun K hK => ?_) AllReadyH.nil; go_simp); (skip); (try go_wp2_with fail); (refine hK.out _ _ ⟨q0, q1⟩ (fun hHeld => ?_)); clear hK K; (try simp only [Act.put, List.setIfInBounds_toArray, List.set_cons_zero, List.set_cons_succ])
        refine wpAnyH_ready (rs := [12]) (by kernel_rfl) (by simp) ?_
        refine AllReadyH.cons (by simp only [List.getElem?_toArray, List.getElem?_cons_succ, List.getElem?_cons_zero]; rfl) (fun K hK => ?_) AllReadyH.nil
        refine step_own (by rfl) (.tmp 20) (.tmp 27) 68 134 3 24 (.agg #[.int .i64 0, .int .i64 0, .int .i64 0]) (by rfl) Tryz.underlying68 Tryz.info134 rfl (by omega) N v L.length _ (by rfl) HM4.out.sl ⟨w2.heap.size, 0, none⟩ 1 1 (rt3 ⟨⟨tl, tb⟩, Tb.fstW f⟩) (by rfl) rfl HN3.out (rt3_one _) (by have := HLL.out; omega) (by omega) HS4.out ?_
        intro v2 w5 hv2 hf5
        have hv3 : SlR w5 N v2 (L ++ [⟨⟨tl, tb⟩, Tb.fstW f⟩]) := SlR.app hv2
        have hnb : ∀ g, v.ownBlock = some g → g ≠ b := fun g hg => by have := HM4.out.sl.from' g hg; have := HBN.out; omega
        have hnm : ∀ g, v.ownBlock = some g → g ≠ m := fun g hg => by have := HM4.out.sl.from' g hg; have := HM4.out.lt; omega
        have x0 := cell_fr' hf5 q0 (fun h => hnb _ h rfl)
        have x1 := cell_fr' hf5 q1 (fun h => hnb _ h rfl)
        have xm := cell_fr' hf5 HM4.out.c0 (fun h => hnm _ h rfl)
        have xf := World.rowIs.frozen (hf5.row HM4.out.row (fun h => hnm _ h rfl)) 0
        have HST := Lib.hid (HM4.out.store hv3 hf5)
        have HFR : Hid (Fr (MN m N) w (w5.setCell ⟨m, 0, none⟩ v2)) := ((HF2.out.mn.trans HF4.out.mn).trans (hf5.mono (fun i _ hi => .inr (HM4.out.sl.from' i hi)))).setCell (p := ⟨m, 0, none⟩) (.inl (.inl rfl)) _
        have HS5 : Hid (N ≤ (w5.setCell ⟨m, 0, none⟩ v2).heap.size) := by show N ≤ _; have := hf5.size; have := HS4.out; simp [World.setCell]; omega
        have hbm' : b ≠ m := HBM.out
        obtain ⟨a5, q5, rfl, _⟩ := hv3.shape
        clear hv2 hf5 hv3 hnb hnm
        generalize (L ++ [(⟨⟨tl, tb⟩, Tb.fstW f⟩ : Tb.Rt)]).length = n5 at *
        refine hK.out _ _ ⟨x0, x1⟩ (fun hHeld => ?_)
        clear hK K
        (try simp only [Act.put, List.setIfInBounds_toArray, List.set_cons_zero, List.set_cons_succ])
        (refine wpAnyH_take (i := 13) (v := ?_) (by simp only [List.getElem?_toArray, List.getElem?_cons_succ, List.getElem?_cons_zero]; rfl) (by kernel_rfl) (by kernel_rfl) (by kernel_rfl) (by exact fun _ _ _ h => h) (Or.inl ⟨by rfl, ?_⟩) hHeld ?_; rotate_left; (focus (intro w hSw; (try dsimp only at hSw); go_simp; all_goals with_reducible rfl)); (try simp only [Act.put, List.setIfInBounds_toArray, List.set_cons_zero, List.set_cons_succ])); (refine wpAnyH_take (i := 14) (v := ?_) (by simp only [List.getElem?_toArray, List.getElem?_cons_succ, List.getElem?_cons_zero]; rfl) (by kernel_rfl) (by kernel_rfl) (by kernel_rfl) (by exact fun _ _ _ h => h) (Or.inl ⟨by rfl, ?_⟩) hHeld ?_; rotate_left; (focus (intro w hSw; (try dsimp only at hSw); go_simp; all_goals with_reducible rfl)); (try simp only [Act.put, List.setIfInBounds_toArray, List.set_cons_zero, List.set_cons_succ]))
        (refine wpAnyH_ready (rs := [15]) (by kernel_rfl) (by simp) ?_; refine AllReadyH.cons (by simp only [List.getElem?_toArray, List.getElem?_cons_succ, List.getElem?_cons_zero]; rfl) (fun K hK => ?_) AllReadyH.nil; go_simp); (skip); (try go_wp2_with fail); (refine hK.out _ _ ⟨cell_set x0 hbm', cell_set x1 hbm'⟩ (fun hHeld => ?_)); clear hK K; (try simp only [Act.put, List.setIfInBounds_toArray, List.set_cons_zero, List.set_cons_succ])
        (refine wpAnyH_done (by kernel_rfl) ?_ _)
        go_wp2_with fail
        go_meet
        exact ⟨by rw [HPK.out], _, by show MkAt _ m N _ (L ++ Tb.made (Tb.wshT T) T.root h); rw [HMD.out]; exact HST.out, TrM.keep HFR.out HT.out, HFR, HS5⟩
  case rest =>
    clear c0 c1 cm ca HM HT2 HN2 HV1 HF2 HD HT
    obtain ⟨rfl, v3, hM3, hT3, hF3, hN3⟩ := hcut
    have hlf3 := HLF.out _ hT3.out
    have HLF3 := Lib.hid hlf3
    clear hlf3
    cases T with
    | leaf p x =>
      go_wp2_with fail
      refine HLF3.out.mono ?_
      rintro e w4 ⟨rfl, rfl⟩
      dsimp only [Tb.Tr.isLeaf]
      go_wp2
      refine bodyPost_end (results_none rfl _ _ _) rfl ?_
      exact ⟨rfl, v3, hM3.out, hF3.out⟩
    | node p l r =>
      obtain ⟨IHL, IHR⟩ := IHH.out p l r rfl
      obtain ⟨bl, br, hn3, hl3, hr3⟩ := hT3.out
      have c2 := hn3.1.c3
      have c3 := hn3.1.c4
      have hlen := HLN.out
      have elen : (Tb.layT (.node p l r) h).length = (Tb.made (Tb.wshT (.node p l r)) p h).length + ((Tb.layT l (Tb.pick (Tb.wshT (.node p l r)) h)).length + (Tb.layT r (Tb.pick (Tb.wshT (.node p l r)) h)).length) := by
        show (Tb.made (Tb.wshT (.node p l r)) p h ++ (Tb.layT l (Tb.pick (Tb.wshT (.node p l r)) h) ++ Tb.layT r (Tb.pick (Tb.wshT (.node p l r)) h))).length = _
        rw [List.length_append, List.length_append]
      have eL : L ++ Tb.layT (.node p l r) h = ((L ++ Tb.made (Tb.wshT (.node p l r)) p h) ++ Tb.layT l (Tb.pick (Tb.wshT (.node p l r)) h)) ++ Tb.layT r (Tb.pick (Tb.wshT (.node p l r)) h) := by
        show L ++ (Tb.made (Tb.wshT (.node p l r)) p h ++ (Tb.layT l (Tb.pick (Tb.wshT (.node p l r)) h) ++ Tb.layT r (Tb.pick (Tb.wshT (.node p l r)) h))) = _
        rw [List.append_assoc, List.append_assoc]
      have hM3' : MkAt wc m N v3 (L ++ Tb.made (Tb.wshT (.node p l r)) p h) := hM3.out
      rw [elen] at hlen
      have ihl := IHL bl m N v3 (L ++ Tb.made (Tb.wshT (.node p l r)) p h) (Tb.pick (Tb.wshT (.node p l r)) h) wc hl3 HH.out.1 hM3' hN3.out (by rw [List.length_append]; omega)
      have ihr := fun W v4 (h1 : MkAt W m N v4 ((L ++ Tb.made (Tb.wshT (.node p l r)) p h) ++ Tb.layT l (Tb.pick (Tb.wshT (.node p l r)) h))) (h2 : TrM W m N r br) (h3 : N ≤ W.heap.size) =>
        IHR br m N v4 ((L ++ Tb.made (Tb.wshT (.node p l r)) p h) ++ Tb.layT l (Tb.pick (Tb.wshT (.node p l r)) h)) (Tb.pick (Tb.wshT (.node p l r)) h) W h2 HH.out.2 h1 h3 (by rw [List.length_append, List.length_append]; omega)
      rw [← eL] at ihr
      have hbm3 := hn3.2
      have IL := Lib.hid ihl; clear ihl; have IR := Lib.hid ihr; clear ihr; have HR3 := Lib.hid hr3; clear hr3; have HBM3 := Lib.hid hbm3; clear hbm3
      clear elen eL hlen hM3 hM3' hl3 hn3 IHL IHR
      go_wp2_with fail
      refine HLF3.out.mono ?_
      rintro e w4 ⟨rfl, rfl⟩
      dsimp only [Tb.Tr.isLeaf]
      go_wp2_with fail
      refine IL.out.mono ?_
      rintro e w5 ⟨rfl, v4, hM5, hF5⟩
      have hS : ¬ MN m N b := fun q => by
        rcases q with q | q
        · exact HBM3.out.2 q
        · have := HBM3.out.1; omega
      have c3 := cell_fr' hF5 c3 hS
      have HM5 := Lib.hid hM5
      have HR5 := Lib.hid (HR3.out.keep hF5)
      have HF5 := Lib.hid (hF3.out.trans hF5)
      have HN5 : Hid (N ≤ w5.heap.size) := Nat.le_trans hN3.out hF5.size
      clear hM5 hF5 hS
      go_wp2_with fail
      refine (IR.out _ v4 HM5.out HR5.out HN5.out).mono ?_
      rintro e w6 ⟨rfl, v5, hM6, hF6⟩
      have HM6 := Lib.hid hM6
      have HF6 := Lib.hid (HF5.out.trans hF6)
      clear hM6 hF6
      go_wp2
      refine bodyPost_end (results_none rfl _ _ _) rfl ?_
      exact ⟨rfl, v5, HM6.out, HF6.out⟩
theorem lay_any : ∀ T, LaySaid T
  | .leaf p x => lay_step (.leaf p x) (fun _ _ _ e => by cases e)
  | .node p l r => lay_step (.node p l r) (fun _ _ _ e => by cases e; exact ⟨lay_any l, lay_any r⟩)
end Go.Proofs.YtffoilacaffdgaaGreatDoor
/- Walks: least.Of, least.Count. -/
namespace Go.Proofs.YtffoilacaffdgaaGreatDoor
open Go.RowKit Go.Deep

/-- As OfTbPost; and the table's routes lie in a new block. -/
def OfTbNew (L : List Tb.Rt) (w : World) (e : Ending) (w' : World) : Prop :=
  (Tb.chk L ≠ 0 ∧ e = .returned (.tuple #[.pointer none, .int .i64 (Tb.chk L)]) ∧ Fr NoB w w') ∨
  (Tb.chk L = 0 ∧ ∃ t v, e = .returned (.tuple #[.pointer (some ⟨t, 0, none⟩), .int .i64 0]) ∧ TAt w' t v L ∧ w.heap.size ≤ t ∧ (∀ g, v.ownBlock = some g → w.heap.size ≤ g) ∧ Fr NoB w w')
set_option maxHeartbeats 4000000 in
theorem OfTb_new (a : Option Addr) (c : Nat) (L : List Tb.Rt) (w : World) (hl : L.length ≤ 1000) (ha : Rs w a L) :
    Calls Tryz.prog 118 #[.slice a L.length c] w (OfTbNew L w) := by
  have HA := Lib.hid ha; clear ha
  go_enter Tryz.func118, Tryz.ntmps118
  go_wp2_with fail
  refine (Check_all a c L _ HA.out).mono ?_
  rintro e w1 ⟨rfl, hf⟩
  have hr := HA.out.keep0 hf
  have HR := Lib.hid hr; clear hr; have HF := Lib.hid hf; clear hf
  by_cases h0 : Tb.chk L = 0
  · have H0 := Lib.hid h0
    rw [h0]
    clear h0
    go_wp2_with fail
    refine (CloneR_any a c L _ hl HR.out).mono ?_
    rintro e w2 ⟨v', rfl, hv, hf⟩
    obtain ⟨a', c', rfl, _⟩ := hv.shape
    have hs0 : SlR w2 0 (.slice a' L.length c') L := by
      refine ⟨hv.1, ?_⟩
      rcases hv.2 with h | ⟨g, cap, cur, h1, h2, h3⟩
      · exact .inl h
      · exact .inr ⟨g, cap, cur, h1, Nat.zero_le _, h3⟩
    have hne : (Value.slice a' L.length c').ownBlock ≠ some w2.heap.size := fun e => by
      have := (World.ownsRow.lt hv _ e).2
      omega
    have hnw : ∀ g, (Value.slice a' L.length c').ownBlock = some g → w.heap.size ≤ g := fun g hg => Nat.le_trans HF.out.size (hv.from' g hg)
    have hF := HF.out.trans hf
    have HS0 := Lib.hid hs0; clear hs0; have HNE := Lib.hid hne; clear hne; have HF1 := Lib.hid hF; clear hF; have HNW := Lib.hid hnw; clear hnw
    clear hv hf
    go_wp2
    refine bodyPost_ret (v := .tuple #[.pointer (some ⟨w2.heap.size, 0, none⟩), .int .i64 0]) ?_ rfl (show OfTbNew L w (.returned (.tuple #[.pointer (some ⟨w2.heap.size, 0, none⟩), .int .i64 0])) _ from Or.inr ⟨H0.out, w2.heap.size, _, rfl, ⟨?_, World.ownsRow.alloc HS0.out _, HNE.out⟩, HF1.out.size, HNW.out, HF1.out.alloc _⟩)
    · simp [results, Tryz.results118, go_sem]
    · exact rowIs_new w2 1 _ 112
  · have hb : (Tb.chk L != 0) = true := by simpa using h0
    have H0 := Lib.hid h0
    clear h0
    go_wp2
    refine bodyPost_ret (v := .tuple #[.pointer none, .int .i64 (Tb.chk L)]) ?_ rfl (show OfTbNew L w (.returned (.tuple #[.pointer none, .int .i64 (Tb.chk L)])) w1 from Or.inl ⟨H0.out, rfl, HF.out⟩)
    simp [results, Tryz.results118, go_sem]

def FewPost (L : List Tb.Rt) (w : World) (e : Ending) (w' : World) : Prop :=
  (40 < (Tb.few L).length ∧ e = .returned (.tuple #[.pointer none, .bool false]) ∧ Fr NoB w w') ∨
  ((Tb.few L).length ≤ 40 ∧ ∃ t v, e = .returned (.tuple #[.pointer (some ⟨t, 0, none⟩), .bool true]) ∧ TAt w' t v (Tb.few L) ∧ w.heap.size ≤ t ∧ (∀ g, v.ownBlock = some g → w.heap.size ≤ g) ∧ Fr NoB w w')
theorem new_maker (w : World) (N : Nat) (hN : w.heap.size < N) : MkAt (w.alloc (.cells #[.slice none 0 0] 191)) w.heap.size N (.slice none 0 0) [] :=
  ⟨World.rowIs_alloc w #[.slice none 0 0] _ _ (by intro i hi; simp at hi; subst hi; rfl), SlR.nil _ _, hN⟩
theorem MkAt.grow {w w' : World} {m N M : Nat} (h : MkAt w m N (.slice none 0 0) []) (hf : Fr NoB w w') (hM : m < M) : MkAt w' m M (.slice none 0 0) [] := ⟨hf.row h.row (fun h => h), SlR.nil _ _, hM⟩
theorem slice_noint (x : Int) : Value.slice none 0 0 ≠ .int .i64 x := fun e => by cases e
theorem Fr.noMN {w w1 w2 : World} {m N : Nat} (h : Fr NoB w w1) (hf : Fr (MN m N) w1 w2) (hm : w.heap.size ≤ m) (hN : w.heap.size ≤ N) : Fr NoB w w2 := h.trans' hf (fun i hi k => by
  rcases k with k | k
  · omega
  · omega)
set_option maxRecDepth 100000 in
set_option maxHeartbeats 8000000 in
theorem Few_any (t : Nat) (v : Value) (L : List Tb.Rt) (w : World) (hl : L.length ≤ 1000) (hw : Tb.Wf L) (h : TAt w t v L) : Calls Tryz.prog 80 #[.pointer (some ⟨t, 0, none⟩)] w (FewPost L w) := by
  have hL := Tb.few_layT hw
  have hH := (Tb.mkT_hop 8 ⟨0, 0⟩ (Tb.allOf L) (Tb.fit_allOf L) (Tb.allOf_hops hw)).1
  have h512 := Tb.few_512 hw
  have hck := Tb.chk_of_wf (Tb.few_wf hw)
  obtain ⟨T, hT⟩ : ∃ T, T = Tb.mkT 8 ⟨0, 0⟩ (Tb.allOf L) := ⟨_, rfl⟩
  have hof := fun W (hW : Fr NoB w W) => TOf_any t v L W hl hw (h.keep0 hW)
  rw [← hT] at hL hH hof
  have HL := Lib.hid hL; clear hL; have HH := Lib.hid hH; clear hH; have H512 := Lib.hid h512; clear h512; have HCK := Lib.hid hck; clear hck; have HOF := Lib.hid hof; clear hof
  clear h hw hl hT
  go_enter Tryz.func80, Tryz.ntmps80
  go_upto_region 2 with fail
  refine wp_name fun w1 hw1 => ?_
  have hM1 : MkAt w1 w.heap.size (w.heap.size + 1) (.slice none 0 0) [] := by rw [hw1]; exact new_maker w _ (by omega)
  have hF1 : Fr NoB w w1 := by rw [hw1]; (repeat (first | exact Fr.refl _ _ | refine Fr.alloc ?_ _ | refine Fr.setNew ?_ (by omega) _ _ | refine Fr.drewN ?_ _ | refine Fr.drew ?_))
  clear hw1
  have HM1 := Lib.hid hM1; clear hM1; have HF1 := Lib.hid hF1; clear hF1
  go_wp2_with fail
  refine (HOF.out _ HF1.out).mono ?_
  rintro e w2 ⟨b, rfl, hT2, hf2⟩
  have hlt : w.heap.size < w2.heap.size := Nat.lt_of_lt_of_le (World.block_lt_of_cell? w1 _ HM1.out.c0) hf2.size
  have hM2 := HM1.out.grow hf2 hlt
  have hTM := TrM.of (m := w.heap.size) (N := w2.heap.size) hM2.c0 slice_noint (Nat.le_refl _) hT2
  have hlay := lay_any T b w.heap.size w2.heap.size (.slice none 0 0) [] (-1) w2 hTM HH.out hM2 (Nat.le_refl _) (by rw [HL.out]; have := H512.out; simp only [List.length_nil]; omega)
  rw [HL.out, List.nil_append] at hlay
  have HLAY := Lib.hid hlay
  have HF2 := Lib.hid (HF1.out.trans hf2)
  have HLT := Lib.hid hlt; clear hlt
  clear hT2 hf2 hM2 hTM hlay HM1 HF1
  go_wp2_with fail
  refine HLAY.out.mono ?_
  rintro e w3 ⟨rfl, v3, hM3, hf3⟩
  have c0 := hM3.c0
  obtain ⟨a3, q3, rfl, hrs, _⟩ := hM3.sl.shape
  have HF3 := Lib.hid (HF2.out.noMN hf3 (Nat.le_refl _) (Nat.le_of_lt HLT.out))
  have HRS := Lib.hid hrs; clear hrs
  clear hM3 hf3
  go_wp2_with fail
  refine (OfTb_new a3 q3 (Tb.few L) _ (by have := H512.out; omega) HRS.out).mono ?_
  rintro e w4 h4
  rcases h4 with ⟨h0, rfl, hf4⟩ | ⟨h0, t4, v4, rfl, hT4, ht4, hv4, hf4⟩
  · have h40 : 40 < (Tb.few L).length := Classical.byContradiction fun k => h0 (by rw [HCK.out, if_neg k])
    have hc : Tb.chk (Tb.few L) = 3 := by rw [HCK.out, if_pos h40]
    have HF4 := Lib.hid (HF3.out.trans hf4)
    have H40 := Lib.hid h40; clear h40
    rw [hc]
    clear h0 hf4 hc
    go_wp2
    refine bodyPost_ret (v := .tuple #[.pointer none, .bool false]) ?_ rfl (show FewPost L w (.returned (.tuple #[.pointer none, .bool false])) w4 from Or.inl ⟨H40.out, rfl, HF4.out⟩)
    simp [results, Tryz.results80, go_sem]
  · have h40 : (Tb.few L).length ≤ 40 := Classical.byContradiction fun k => by
      rw [HCK.out, if_pos (by omega)] at h0
      cases h0
    have HT4 := Lib.hid hT4
    have HV4 := Lib.hid (fun g hg => Nat.le_trans HF3.out.size (hv4 g hg))
    have HB4 := Lib.hid (Nat.le_trans HF3.out.size ht4)
    have HF4 := Lib.hid (HF3.out.trans hf4)
    have H40 := Lib.hid h40; clear h40
    clear h0 hf4 hT4 ht4 hv4
    go_wp2
    refine bodyPost_ret (v := .tuple #[.pointer (some ⟨t4, 0, none⟩), .bool true]) ?_ rfl (show FewPost L w (.returned (.tuple #[.pointer (some ⟨t4, 0, none⟩), .bool true])) w4 from Or.inr ⟨H40.out, t4, v4, rfl, HT4.out, HB4.out, HV4.out, HF4.out⟩)
    simp [results, Tryz.results80, go_sem]
end Go.Proofs.YtffoilacaffdgaaGreatDoor
/- Walk: wishes of the document's own answer. -/
namespace Go.Proofs.YtffoilacaffdgaaGreatDoor
open Go.RowKit Go.Deep

def seven (f : Nat → Value) : Value := .agg #[f 0, f 1, f 2, f 3, f 4, f 5, f 6]
/-- By their number and one. -/
def up (f : Int → Bool) (k : Nat) : Bool := f ((k : Int) - 1)
end Go.Proofs.YtffoilacaffdgaaGreatDoor
/- Walks: a town's Full and Small. -/
namespace Go.Proofs.YtffoilacaffdgaaGreatDoor
open Go.RowKit Go.Deep

theorem SlR.keep0 {w w' : World} {base : Nat} {v : Value} {L : List Tb.Rt} (h : SlR w base v L) (hf : Fr NoB w w') : SlR w' base v L := own_keep h hf (fun _ _ h => h)
end Go.Proofs.YtffoilacaffdgaaGreatDoor
/- A post in memory; fib.New, Owners, Owner. -/
namespace Go.Proofs.YtffoilacaffdgaaGreatDoor
open Go.RowKit Go.Deep

structure PIds where
  p : Nat
  x : Ids
  tb : Nat
/-- A post's two cells. -/
def poF (q : PIds) (i : Nat) : Value := if i = 0 then .pointer (some ⟨q.x.b, 0, none⟩) else .pointer (some ⟨q.tb, 0, none⟩)
/-- The blocks of a post. -/
def FtP (q : PIds) (v tv : Value) (i : Nat) : Prop := i = q.p ∨ Ft q.x v i ∨ TB q.tb tv i
structure PAt (w : World) (q : PIds) (v tv : Value) (s : Fb.PT) : Prop where
  row : w.rowIs q.p 61 2 (poF q)
  net : NtAt w q.x v s.t
  tab : TAt w q.tb tv s.o
section
variable {w : World} {q : PIds} {v tv : Value} {s : Fb.PT} (h : PAt w q v tv s)
include h
theorem PAt.p0 : w.cell? ⟨q.p, 0, none⟩ = some (.pointer (some ⟨q.x.b, 0, none⟩)) := World.rowIs.cell h.row (i := 0) (by omega)
theorem PAt.p1 : w.cell? ⟨q.p, 1, none⟩ = some (.pointer (some ⟨q.tb, 0, none⟩)) := World.rowIs.cell h.row (i := 1) (by omega)
theorem PAt.pN : ¬ Ft q.x v q.p := by
  rintro (e | e | ⟨k, hk, e⟩ | e)
  · exact rows_apart h.row h.net.net (by decide) e
  · exact rows_apart h.row h.net.links (by decide) e
  · exact rows_apart h.row (h.net.node k hk) (by decide) e
  · exact row_own_apart h.row h.net.news (by decide) e
theorem PAt.pT : ¬ TB q.tb tv q.p := by
  rintro (e | e)
  · exact rows_apart h.row h.tab.row (by decide) e
  · exact row_own_apart h.row h.tab.sl (by decide) e
theorem PAt.ap : ∀ i, Ft q.x v i → ¬ TB q.tb tv i := by
  intro i hi ht
  rcases hi with e | e | ⟨k, hk, e⟩ | e
  · subst e
    rcases ht with e | e
    · exact rows_apart h.net.net h.tab.row (by decide) e
    · exact row_own_apart h.net.net h.tab.sl (by decide) e
  · subst e
    rcases ht with e | e
    · exact rows_apart h.net.links h.tab.row (by decide) e
    · exact row_own_apart h.net.links h.tab.sl (by decide) e
  · subst e
    rcases ht with e | e
    · exact rows_apart (h.net.node k hk) h.tab.row (by decide) e
    · exact row_own_apart (h.net.node k hk) h.tab.sl (by decide) e
  · rcases ht with e' | e'
    · subst e'
      exact row_own_apart h.tab.row h.net.news (by decide) e
    · exact own_apart h.net.news h.tab.sl (by decide) i e e'
theorem PAt.lt {i : Nat} (hi : FtP q v tv i) : i < w.heap.size := by
  rcases hi with e | e | e | e
  · subst e; exact World.rowIs.lt h.row
  · exact h.net.lt e
  · subst e; exact World.rowIs.lt h.tab.row
  · exact (World.ownsRow.lt h.tab.sl i e).2
theorem PAt.keep {S : Nat → Prop} {w' : World} (hf : Fr S w w') (hS : ∀ i, FtP q v tv i → ¬ S i) : PAt w' q v tv s :=
  ⟨hf.row h.row (hS _ (.inl rfl)), h.net.keep hf (fun i hi => hS i (.inr (.inl hi))), h.tab.keep hf (hS _ (.inr (.inr (.inl rfl)))) (fun g hg => hS g (.inr (.inr (.inr hg))))⟩
theorem PAt.keep0 {w' : World} (hf : Fr NoB w w') : PAt w' q v tv s := h.keep hf (fun _ _ h => h)
theorem PAt.setNet {w' : World} {v' : Value} {t' : Nt.NT} (hn : NtAt w' q.x v' t') (hf : Fr (Ft q.x v) w w') : PAt w' q v' tv ⟨t', s.o⟩ :=
  ⟨hf.row h.row h.pN, hn, h.tab.keep hf (fun e => h.ap _ e (.inl rfl)) (fun _ hg e => h.ap _ e (.inr hg))⟩
theorem PAt.setTab {w' : World} {tv' : Value} {o' : List Tb.Rt} (ht : TAt w' q.tb tv' o') (hf : Fr (TB q.tb tv) w w') : PAt w' q v tv' ⟨s.t, o'⟩ :=
  ⟨hf.row h.row h.pT, h.net.keep hf (fun i hi => h.ap i hi), ht⟩
end
/-- What a step of a post says and leaves. -/
def PDo (q : PIds) (v tv : Value) (s : Fb.PT) (c : Int) (w : World) (e : Ending) (w' : World) : Prop :=
  ∃ v' tv', e = .returned (.int .i64 c) ∧ PAt w' q v' tv' s ∧ Fr (FtP q v tv) w w' ∧ ∀ i, FtP q v' tv' i → FtP q v tv i ∨ w.heap.size ≤ i
theorem FtP.net {q : PIds} {v v' tv : Value} {n i : Nat} (hg : ∀ g, v'.ownBlock = some g → v.ownBlock = some g ∨ n ≤ g) (hi : FtP q v' tv i) : FtP q v tv i ∨ n ≤ i := by
  rcases hi with e | (e | e | e | e) | e
  · exact .inl (.inl e)
  · exact .inl (.inr (.inl (.inl e)))
  · exact .inl (.inr (.inl (.inr (.inl e))))
  · exact .inl (.inr (.inl (.inr (.inr (.inl e)))))
  · rcases hg i e with e | e
    · exact .inl (.inr (.inl (.inr (.inr (.inr e)))))
    · exact .inr e
  · exact .inl (.inr (.inr e))
theorem FtP.tab {q : PIds} {v tv tv' : Value} {n i : Nat} (hg : ∀ g, tv'.ownBlock = some g → tv.ownBlock = some g ∨ n ≤ g) (hi : FtP q v tv' i) : FtP q v tv i ∨ n ≤ i := by
  rcases hi with e | e | e | e
  · exact .inl (.inl e)
  · exact .inl (.inr (.inl e))
  · exact .inl (.inr (.inr (.inl e)))
  · rcases hg i e with e | e
    · exact .inl (.inr (.inr (.inr e)))
    · exact .inr e
/-- A post of one's own: its blocks are new since w. -/
structure PR (w : World) (q : PIds) (v tv : Value) (s : Fb.PT) (wr : World) : Prop where
  at_ : PAt wr q v tv s
  f : Fr NoB w wr
  new : ∀ i, FtP q v tv i → w.heap.size ≤ i
theorem PR.keep {w wr wx : World} {q : PIds} {v tv : Value} {s : Fb.PT} (h : PR w q v tv s wr) (hf : Fr NoB wr wx) : PR w q v tv s wx := ⟨h.at_.keep0 hf, h.f.trans hf, h.new⟩
theorem PR.step {w wr wx : World} {q : PIds} {v tv v' tv' : Value} {s s' : Fb.PT} (h : PR w q v tv s wr) (ha : PAt wx q v' tv' s') (hf : Fr (FtP q v tv) wr wx) (hg : ∀ i, FtP q v' tv' i → FtP q v tv i ∨ wr.heap.size ≤ i) : PR w q v' tv' s' wx := by
  refine ⟨ha, h.f.trans' hf (fun i hi h' => by have := h.new i h'; omega), fun i hi => ?_⟩
  rcases hg i hi with e | e
  · exact h.new i e
  · have := h.f.size; omega
def NewPPost (w : World) (e : Ending) (w' : World) : Prop := ∃ (q : PIds) (v tv : Value), e = .returned (.pointer (some ⟨q.p, 0, none⟩)) ∧ PR w q v tv Fb.begunP w'
set_option maxRecDepth 100000 in
set_option maxHeartbeats 4000000 in
theorem NewP (w : World) : Calls Tryz.prog 13 #[] w (NewPPost w) := by
  go_enter Tryz.func13, Tryz.ntmps13
  go_wp2_with fail
  refine (NewNt _).mono ?_
  rintro e w1 ⟨x, v, rfl, hn, hf, hnew⟩
  have HN := Lib.hid hn; clear hn; have HF := Lib.hid hf; clear hf; have HNEW := Lib.hid hnew; clear hnew
  go_wp2_with fail
  refine (NewT _).mono ?_
  rintro e w2 ⟨rfl, hT, hf2⟩
  have HT := Lib.hid hT; clear hT; have HF2 := Lib.hid hf2; clear hf2
  go_wp2
  refine bodyPost_ret (v := .pointer (some ⟨w2.heap.size, 0, none⟩)) ?_ rfl ⟨⟨w2.heap.size, x, w1.heap.size⟩, v, .slice none 0 0, rfl, ⟨?_, ?_, ?_⟩, ?_, ?_⟩
  · simp [results, Tryz.results13, go_sem]
  · exact World.rowIs_alloc w2 _ _ (poF ⟨w2.heap.size, x, w1.heap.size⟩) (fun i hi => by
      match i, hi with
      | 0, _ => rfl
      | 1, _ => rfl)
  · exact HN.out.keep0 (HF2.out.trans ((Fr.refl _ _).alloc _))
  · exact HT.out.keep0 ((Fr.refl _ _).alloc _)
  · exact (HF.out.trans HF2.out).alloc _
  · have h1 := HF.out.size
    have h2 := HF2.out.size
    rintro i (e | e | e | e)
    · subst e; show w.heap.size ≤ w2.heap.size; omega
    · exact HNEW.out i e
    · subst e; exact h1
    · cases e
end Go.Proofs.YtffoilacaffdgaaGreatDoor
/- Walks: a post's Do. -/
namespace Go.Proofs.YtffoilacaffdgaaGreatDoor
open Go.RowKit Go.Deep

def PDoSaid (q : PIds) (v tv : Value) (s : Fb.PT) (k a b n pl pb : Int) (w : World) : Prop :=
  Calls Tryz.prog 74 #[.pointer (some ⟨q.p, 0, none⟩), step6 k a b n pl pb] w (PDo q v tv (Fb.doP s k a b n pl pb).1 (Fb.doP s k a b n pl pb).2 w)
set_option maxRecDepth 100000 in
set_option maxHeartbeats 4000000 in
theorem PDo_net (q : PIds) (v tv : Value) (s : Fb.PT) (k a b n pl pb : Int) (m : Nat) (w : World) (h7 : k ≠ 7) (hs : Nt.NOk s.t m) (hm : m ≤ 1000) (h : PAt w q v tv s) : PDoSaid q v tv s k a b n pl pb w := by
  unfold PDoSaid
  rw [Fb.doP_net s h7]
  have hb7 : (k != 7) = true := by simpa using h7
  have hdo := fun W (hW : Fr NoB w W) => Do_any q.x v s.t k a b n pl pb m W hs hm (h.net.keep0 hW)
  unfold step6 at *
  clear h7 hs
  have H := Lib.hid h; clear h; have HDO := Lib.hid hdo; clear hdo
  go_enter Tryz.func74, Tryz.ntmps74
  go_upto_region 1 with fail
  refine wp_name fun w1 hw1 => ?_
  have d0 : w1.cell? ⟨w.heap.size, 0, none⟩ = some (.int .i64 k) := by rw [hw1]; simp
  have d1 : w1.cell? ⟨w.heap.size, 1, none⟩ = some (.int .i64 a) := by rw [hw1]; simp
  have d2 : w1.cell? ⟨w.heap.size, 2, none⟩ = some (.int .i64 b) := by rw [hw1]; simp
  have d3 : w1.cell? ⟨w.heap.size, 3, none⟩ = some (.int .i64 n) := by rw [hw1]; simp
  have d4 : w1.cell? ⟨w.heap.size, 4, none⟩ = some (.int .i64 pl) := by rw [hw1]; simp
  have d5 : w1.cell? ⟨w.heap.size, 5, none⟩ = some (.int .i64 pb) := by rw [hw1]; simp
  have hF : Fr NoB w w1 := by rw [hw1]; (repeat (first | exact Fr.refl _ _ | refine Fr.alloc ?_ _ | refine Fr.setNew ?_ (by omega) _ _ | refine Fr.drewN ?_ _ | refine Fr.drew ?_))
  clear hw1
  have h1 := H.out.keep0 hF
  have p0 := h1.p0
  have hz : ∀ i, FtP q v tv i → i ≠ w.heap.size := fun i hi e => by have := H.out.lt hi; omega
  have hpN := h1.pN
  generalize w.heap.size = z at *
  have hzN : ¬ Ft q.x v z := fun e => hz z (.inr (.inl e)) rfl
  clear hz
  have H1 := Lib.hid h1; clear h1; have HF := Lib.hid hF; clear hF; have HPN := Lib.hid hpN; clear hpN; have HZN := Lib.hid hzN; clear hzN
  go_wp2_with fail
  go_region_held3 (fun W => W.cell? ⟨q.p, 0, none⟩ = some (.pointer (some ⟨q.x.b, 0, none⟩)) ∧ W.cell? ⟨z, 0, none⟩ = some (.int .i64 k) ∧ W.cell? ⟨z, 1, none⟩ = some (.int .i64 a) ∧ W.cell? ⟨z, 2, none⟩ = some (.int .i64 b) ∧ W.cell? ⟨z, 3, none⟩ = some (.int .i64 n) ∧ W.cell? ⟨z, 4, none⟩ = some (.int .i64 pl) ∧ W.cell? ⟨z, 5, none⟩ = some (.int .i64 pb))
    (first | exact ⟨p0, d0, d1, d2, d3, d4, d5⟩ | exact ⟨ep, e0, e1, e2, e3, e4, e5⟩)
    (first | (go_at_call 105; refine (HDO.out _ HF.out.drew).mono ?_; rintro e w2 ⟨v', rfl, ha, hf, hg⟩; have ep := cell_fr' hf p0 HPN.out; have e0 := cell_fr' hf d0 HZN.out; have e1 := cell_fr' hf d1 HZN.out; have e2 := cell_fr' hf d2 HZN.out; have e3 := cell_fr' hf d3 HZN.out; have e4 := cell_fr' hf d4 HZN.out; have e5 := cell_fr' hf d5 HZN.out; have HA := Lib.hid ha; have HF2 := Lib.hid hf; have HG := Lib.hid hg; clear ha hf hg))
  go_wp2
  go_ret
  refine ⟨v', tv, rfl, (H1.out.keep0 (Fr.refl _ _).drew).setNet HA.out HF2.out, ?_, fun i hi => FtP.net (fun g hg => ?_) hi⟩
  · exact (HF.out.drew.mono (fun _ _ h => h.elim)).trans (HF2.out.mono (fun i _ hi => .inr (.inl hi)))
  · rcases HG.out g hg with e | e
    · exact .inl e
    · exact .inr (Nat.le_trans HF.out.size e)
set_option maxRecDepth 100000 in
set_option maxHeartbeats 4000000 in
theorem PDo_no (q : PIds) (v tv : Value) (s : Fb.PT) (a b n pl pb : Int) (w : World) (ha : ¬ Nt.isN a) (h : PAt w q v tv s) : PDoSaid q v tv s 7 a b n pl pb w := by
  unfold PDoSaid
  rw [Fb.doP_own, Fb.ownT_no _ ha]
  unfold step6
  have H := Lib.hid h; clear h; have HA := Lib.hid ha; clear ha
  go_enter Tryz.func74, Tryz.ntmps74
  go_wp2_with fail
  refine (Node_no _ _ HA.out).mono ?_; rintro e w' ⟨rfl, rfl⟩
  go_wp2
  go_ret
  exact ⟨v, tv, rfl, H.out.keep0 ((Fr.refl _ _).alloc _), (Fr.refl _ _).alloc _, fun _ h => .inl h⟩
set_option maxRecDepth 100000 in
set_option maxHeartbeats 4000000 in
theorem PDo_own (q : PIds) (v tv : Value) (s : Fb.PT) (a b n pl pb : Int) (w : World) (ha : Nt.isN a) (ho : Fb.OOk s.o) (h : PAt w q v tv s) : PDoSaid q v tv s 7 a b n pl pb w := by
  unfold PDoSaid
  rw [Fb.doP_own, Fb.ownT_yes _ ha]
  dsimp only
  unfold step6
  obtain ⟨a0, a1⟩ := ha
  have hdo := fun W hop (hW : Fr NoB w W) => Set_any q.tb tv s.o pl pb hop W ho.len ho.wf (h.tab.keep0 hW)
  generalize hO : Fb.ownH a n = hop
  clear ho
  have H := Lib.hid h; clear h; have HDO := Lib.hid hdo; clear hdo; have HO := Lib.hid hO; clear hO
  go_enter Tryz.func74, Tryz.ntmps74
  go_upto_region 1 with fail
  refine wp_name fun w1 hw1 => ?_
  have d0 : w1.cell? ⟨w.heap.size, 0, none⟩ = some (.int .i64 7) := by rw [hw1]; simp
  have d1 : w1.cell? ⟨w.heap.size, 1, none⟩ = some (.int .i64 a) := by rw [hw1]; simp
  have d3 : w1.cell? ⟨w.heap.size, 3, none⟩ = some (.int .i64 n) := by rw [hw1]; simp
  have d4 : w1.cell? ⟨w.heap.size, 4, none⟩ = some (.int .i64 pl) := by rw [hw1]; simp
  have d5 : w1.cell? ⟨w.heap.size, 5, none⟩ = some (.int .i64 pb) := by rw [hw1]; simp
  have hF : Fr NoB w w1 := by rw [hw1]; (repeat (first | exact Fr.refl _ _ | refine Fr.alloc ?_ _ | refine Fr.setNew ?_ (by omega) _ _ | refine Fr.drewN ?_ _ | refine Fr.drew ?_))
  clear hw1
  have h1 := H.out.keep0 hF
  have p1 := h1.p1
  have hz : ∀ i, FtP q v tv i → i ≠ w.heap.size := fun i hi e => by have := H.out.lt hi; omega
  have hpT := h1.pT
  generalize w.heap.size = z at *
  have hzT : ¬ TB q.tb tv z := fun e => hz z (.inr (.inr e)) rfl
  clear hz
  have H1 := Lib.hid h1; clear h1; have HF := Lib.hid hF; clear hF; have HPT := Lib.hid hpT; clear hpT; have HZT := Lib.hid hzT; clear hzT
  go_wp2_with fail
  refine (Node_yes _ _ a0 a1).mono ?_; rintro e w' ⟨rfl, rfl⟩
  by_cases hn : n = 0
  · have hnb : (n == 0) = true := by simpa using hn
    have hH := HO.out
    unfold Fb.ownH at hH
    rw [if_pos hn] at hH
    subst hH
    clear hn
    go_wp2_with fail
    go_region_held3 (fun W => W.cell? ⟨q.p, 1, none⟩ = some (.pointer (some ⟨q.tb, 0, none⟩)) ∧ W.cell? ⟨z, 4, none⟩ = some (.int .i64 pl) ∧ W.cell? ⟨z, 5, none⟩ = some (.int .i64 pb))
      (first | exact ⟨p1, d4, d5⟩ | exact ⟨ep, e4, e5⟩)
      (first | (go_at_call 79; refine (HDO.out _ (-2) HF.out.drew).mono ?_; rintro e w2 ⟨rfl, v', ha, hf, hg⟩; have ep := cell_fr' hf p1 HPT.out; have e4 := cell_fr' hf d4 HZT.out; have e5 := cell_fr' hf d5 HZT.out; have HA := Lib.hid ha; have HF2 := Lib.hid hf; have HG := Lib.hid hg; clear ha hf hg))
    go_wp2
    go_ret
    refine ⟨v, v', rfl, (H1.out.keep0 (Fr.refl _ _).drew).setTab HA.out HF2.out, ?_, fun i hi => FtP.tab (fun g hg => ?_) hi⟩
    · exact (HF.out.drew.mono (fun _ _ h => h.elim)).trans (HF2.out.mono (fun i _ hi => .inr (.inr hi)))
    · rcases HG.out g hg with e | e
      · exact .inl e
      · exact .inr (Nat.le_trans HF.out.size e)
  · have hnb : (n == 0) = false := by simpa using hn
    have hH := HO.out
    unfold Fb.ownH at hH
    rw [if_neg hn] at hH
    subst hH
    clear hn
    go_wp2_with fail
    go_region_held3 (fun W => W.cell? ⟨q.p, 1, none⟩ = some (.pointer (some ⟨q.tb, 0, none⟩)) ∧ W.cell? ⟨z, 4, none⟩ = some (.int .i64 pl) ∧ W.cell? ⟨z, 5, none⟩ = some (.int .i64 pb))
      (first | exact ⟨p1, d4, d5⟩ | exact ⟨ep, e4, e5⟩)
      (first | (go_at_call 79; refine (HDO.out _ a HF.out.drew).mono ?_; rintro e w2 ⟨rfl, v', ha, hf, hg⟩; have ep := cell_fr' hf p1 HPT.out; have e4 := cell_fr' hf d4 HZT.out; have e5 := cell_fr' hf d5 HZT.out; have HA := Lib.hid ha; have HF2 := Lib.hid hf; have HG := Lib.hid hg; clear ha hf hg))
    go_wp2
    go_ret
    refine ⟨v, v', rfl, (H1.out.keep0 (Fr.refl _ _).drew).setTab HA.out HF2.out, ?_, fun i hi => FtP.tab (fun g hg => ?_) hi⟩
    · exact (HF.out.drew.mono (fun _ _ h => h.elim)).trans (HF2.out.mono (fun i _ hi => .inr (.inr hi)))
    · rcases HG.out g hg with e | e
      · exact .inl e
      · exact .inr (Nat.le_trans HF.out.size e)
theorem PDo_any (q : PIds) (v tv : Value) (s : Fb.PT) (k a b n pl pb : Int) (m : Nat) (w : World) (hs : Fb.POk s m) (hm : m ≤ 1000) (h : PAt w q v tv s) : PDoSaid q v tv s k a b n pl pb w := by
  by_cases h7 : k = 7
  · subst h7
    by_cases ha : Nt.isN a
    · exact PDo_own q v tv s a b n pl pb w ha hs.o h
    · exact PDo_no q v tv s a b n pl pb w ha h
  · exact PDo_net q v tv s k a b n pl pb m w h7 hs.str.ok hm h
end Go.Proofs.YtffoilacaffdgaaGreatDoor
/- Walks: a post's Full and Small. -/
namespace Go.Proofs.YtffoilacaffdgaaGreatDoor
open Go.RowKit Go.Deep

def HopPost (h : Int) (w : World) (e : Ending) (w' : World) : Prop := ∃ s d : Int, e = .returned (.agg #[.int .i64 s, .int .i64 d, .int .i64 h]) ∧ Fr NoB w w'
theorem NHop_any (x : Ids) (v : Value) (t : Nt.NT) (a : Nat) (b : Int) (w : World) (ha : a < 6) (h : NtAt w x v t) :
    Calls Tryz.prog 75 #[.pointer (some ⟨x.b, 0, none⟩), .int .i64 a, .int .i64 b] w (HopPost (hopT t b a) w) := by
  refine (NWay_at x v t a b w ha h).mono ?_
  rintro e w' ⟨rfl, hf⟩
  exact ⟨_, _, rfl, hf⟩
/-- A table of one's own. -/
def OwPost (L : List Tb.Rt) (w : World) (e : Ending) (w' : World) : Prop := ∃ (t' : Nat) (v' : Value), e = .returned (.pointer (some ⟨t', 0, none⟩)) ∧ Ow w w' t' v' L
def PFullRel (s : Fb.PT) (n : Nat) (w : World) (t' : Nat) (a : Option Addr) (i : Value) (wr : World) : Prop :=
  ∃ (k : Nat) (v' : Value), k ≤ s.o.length ∧ i = .int .i64 k ∧ Ow w wr t' v' (Fb.full s.t (s.o.take k) n) ∧ Sep wr t' v' a ∧ Rs wr a s.o
theorem PAt.offOw {w wr : World} {q : PIds} {v tv v' : Value} {s : Fb.PT} {t' : Nat} {L : List Tb.Rt} (h : PAt w q v tv s) (k : Ow w wr t' v' L) : ∀ i, FtP q v tv i → ¬ TB t' v' i := by
  intro i hi ht
  have h1 := h.lt hi
  rcases ht with e | e
  · have := k.new; omega
  · have := k.own i e; omega
set_option maxRecDepth 100000 in
set_option maxHeartbeats 8000000 in
theorem PFull_any (q : PIds) (v tv : Value) (s : Fb.PT) (n m : Nat) (w : World) (hn : n < 6) (hs : Fb.POk s m) (h : PAt w q v tv s) :
    Calls Tryz.prog 50 #[.pointer (some ⟨q.p, 0, none⟩), .int .i64 n] w (OwPost (Fb.full s.t s.o n) w) := by
  have hlen := hs.o.len
  have H := Lib.hid h; clear h; have HS := Lib.hid hs; clear hs
  have hfd := fieldHop
  go_enter Tryz.func50, Tryz.ntmps50
  go_wp2_with fail
  refine (Node_yes _ _ (by omega) (by omega)).mono ?_; rintro e w' ⟨rfl, rfl⟩
  go_wp2_with fail
  refine (NewT _).mono ?_
  rintro e w1 ⟨rfl, hT, hf⟩
  have p1 := (H.out.keep0 hf).p1
  have HT := Lib.hid hT; clear hT; have HF := Lib.hid hf; clear hf
  go_wp2_with fail
  refine (ListT_any q.tb tv s.o _ (by have := hlen; omega) (H.out.keep0 HF.out).tab).mono ?_
  rintro e w2 ⟨lv, rfl, hv, hf⟩
  have hsep := fun a n c (e : lv = .slice a n c) => clone_sep HT.out (a := a) (n := n) (c := c) (wx := w2) (K := s.o) (by rw [← e]; exact hv)
  obtain ⟨a, c, rfl, hr, _, _⟩ := hv.shape
  have hsep := hsep a _ c rfl
  have how : Ow w w2 w.heap.size (.slice none 0 0) (Fb.full s.t (s.o.take 0) n) := ⟨HT.out.keep0 hf, Nat.le_refl _, fun g hg => by (cases hg), HF.out.trans hf⟩
  clear hv hf HT HF p1
  generalize w.heap.size = t' at how hsep ⊢
  have HR := Lib.hid hr; clear hr; have HSEP := Lib.hid hsep; clear hsep; have HOW := Lib.hid how; clear how
  go_wp2
  go_loopw [18] (fun i wr => PFullRel s n w t' a i wr) (fun i _ => s.o.length - (intOf i).toNat)
  case atStart => exact ⟨0, _, by omega, rfl, HOW.out, HSEP.out, HR.out⟩
  case round =>
    clear HR HSEP HOW
    obtain ⟨k, v', hk, rfl, how, hsep, hr⟩ := hrel
    have HOW := Lib.hid how; clear how; have HSEP := Lib.hid hsep; clear hsep
    by_cases hkk : k < s.o.length
    · obtain ⟨b0, o0, rfl, c0, c1, c2⟩ := hr k hkk
      obtain ⟨hst, hsc⟩ := Fb.full_step HS.out.str hn HS.out.o hkk
      have hfw := Fb.full_wf HS.out.str hn (HS.out.o.take k)
      have hfl : (Fb.full s.t (s.o.take k) n).length ≤ 40 := by have := hlen; rw [Fb.full_len, List.length_take]; omega
      have hkb : decide ((k : Int) < (s.o.length : Int)) = true := by simp; omega
      generalize hrt : Tb.nth s.o k = r at *
      obtain ⟨⟨l, b⟩, hop⟩ := r
      dsimp only at c0 c1 c2 hst hsc
      have HR := Lib.hid hr; clear hr; have HST := Lib.hid hst; clear hst; have HSC := Lib.hid hsc; clear hsc; have HFW := Lib.hid hfw; clear hfw; have HFL := Lib.hid hfl; clear hfl
      clear hrt
      go_upto_region 7 with fail
      refine wp_name fun w3 hw3 => ?_
      have d0 : w3.cell? ⟨wr.heap.size, 0, none⟩ = some (.int .i64 l) := by rw [hw3]; simp
      have d1 : w3.cell? ⟨wr.heap.size, 1, none⟩ = some (.int .i64 b) := by rw [hw3]; simp
      have d2 : w3.cell? ⟨wr.heap.size, 2, none⟩ = some (.int .i64 hop) := by rw [hw3]; simp
      have hF : Fr NoB wr w3 := by rw [hw3]; (repeat (first | exact Fr.refl _ _ | refine Fr.alloc ?_ _ | refine Fr.setNew ?_ (by omega) _ _ | refine Fr.drewN ?_ _ | refine Fr.drew ?_))
      clear hw3 c0 c1 c2
      have HOW3 := Lib.hid (HOW.out.keep0 hF)
      have HSEP3 := Lib.hid (HSEP.out.keep0 hF)
      have HR3 := Lib.hid (HR.out.keep0 hF)
      have p0 := (H.out.keep0 HOW3.out.f).p0
      have hnb : ∀ W, Fr NoB w3 W → ¬ TB t' v' wr.heap.size := fun W _ e => by
        rcases e with e | e
        · have := World.rowIs.lt HOW.out.at_.row; omega
        · have := (World.ownsRow.lt HOW.out.at_.sl _ e).2; omega
      have hnp : ¬ TB t' v' q.p := H.out.offOw HOW.out _ (.inl rfl)
      have HNB := Lib.hid hnb; clear hnb; have HNP := Lib.hid hnp; clear hnp
      clear hF HOW HSEP HR
      generalize wr.heap.size = db at *
      go_region_held3 (fun W => W.cell? ⟨db, 0, none⟩ = some (.int .i64 l) ∧ W.cell? ⟨db, 1, none⟩ = some (.int .i64 b) ∧ W.cell? ⟨db, 2, none⟩ = some (.int .i64 hop) ∧ W.cell? ⟨q.p, 0, none⟩ = some (.pointer (some ⟨q.x.b, 0, none⟩)))
        (first | exact ⟨d0, d1, d2, p0⟩ | exact ⟨e0, e1, e2, ep⟩ | exact ⟨g0, g1, g2, gp⟩)
        (first | (go_at_call 75; refine (NHop_any q.x v s.t n hop _ hn (by exact (H.out.keep0 HOW3.out.f.drew).net)).mono ?_; rintro e w4 ⟨ws, wd, rfl, hf⟩; have hf := (Fr.refl NoB w3).drew.trans hf; have e0 := cell_fr' hf d0 (fun h => h); have e1 := cell_fr' hf d1 (fun h => h); have e2 := cell_fr' hf d2 (fun h => h); have ep := cell_fr' hf p0 (fun h => h); have HOW4 := Lib.hid (HOW3.out.keep0 hf); have HSEP4 := Lib.hid (HSEP3.out.keep0 hf); have HR4 := Lib.hid (HR3.out.keep0 hf); clear hf) | (go_at_call 79; refine (Set_any t' v' (Fb.full s.t (s.o.take k) n) l b (hopT s.t hop n) _ HFL.out HFW.out HOW4.out.at_).mono ?_; rintro e w5 ⟨rfl, v5, hT, hf, ho⟩; have g0 := cell_fr' hf e0 (HNB.out _ (Fr.refl _ _)); have g1 := cell_fr' hf e1 (HNB.out _ (Fr.refl _ _)); have g2 := cell_fr' hf e2 (HNB.out _ (Fr.refl _ _)); have gp := cell_fr' hf ep HNP.out; have HOW5 := Lib.hid (HOW4.out.set hT hf ho); have HSEP5 := Lib.hid (HSEP4.out.set hf ho); have HR5 := Lib.hid (HR4.out.sep HSEP4.out hf); clear hT hf ho))
      clear d0 d1 d2 p0 e0 e1 e2 ep g0 g1 g2 gp HOW3 HSEP3 HR3 HOW4 HSEP4 HR4
      go_wp2
      go_roundw
      case rel => exact ⟨k + 1, v5, by omega, by go_num, by rw [← HST.out]; exact HOW5.out, HSEP5.out, HR5.out⟩
      case measure => simp [intOf]; omega
    · have e : s.o.take k = s.o := List.take_of_length_le (by omega)
      rw [e] at HOW
      clear e hr
      have hkb : decide ((k : Int) < (s.o.length : Int)) = false := by simp; omega
      go_wp2
      go_ret
      exact ⟨t', v', rfl, HOW.out⟩
theorem PFull_no (q : PIds) (n : Int) (w : World) (hn : ¬ Nt.isN n) :
    Calls Tryz.prog 50 #[.pointer (some ⟨q.p, 0, none⟩), .int .i64 n] w (fun e w' => e = .returned (.pointer none) ∧ w = w') := by
  have HN := Lib.hid hn; clear hn
  go_enter Tryz.func50, Tryz.ntmps50
  go_wp2_with fail
  refine (Node_no _ _ HN.out).mono ?_; rintro e w' ⟨rfl, rfl⟩
  go_wp2
  go_ret
  exact ⟨rfl, rfl⟩
set_option maxRecDepth 100000 in
set_option maxHeartbeats 8000000 in
theorem PSmall_any (q : PIds) (v tv : Value) (s : Fb.PT) (n m : Nat) (w : World) (hn : n < 6) (hs : Fb.POk s m) (h : PAt w q v tv s) :
    Calls Tryz.prog 51 #[.pointer (some ⟨q.p, 0, none⟩), .int .i64 n] w (OwPost (Fb.small s.t s.o n) w) := by
  have hfw := Fb.full_wf hs.str hn hs.o
  have hfl : (Fb.full s.t s.o n).length ≤ 1000 := by have := hs.o.len; rw [Fb.full_len]; omega
  have h40 : (Tb.few (Fb.full s.t s.o n)).length ≤ 40 := (Fb.small_ok hs.str hn hs.o).2.2.1
  have hfu := fun W (hW : Fr NoB w W) => PFull_any q v tv s n m W hn hs (h.keep0 hW)
  clear h hs
  have HFW := Lib.hid hfw; clear hfw; have HFL := Lib.hid hfl; clear hfl; have H40 := Lib.hid h40; clear h40; have HFU := Lib.hid hfu; clear hfu
  go_enter Tryz.func51, Tryz.ntmps51
  go_wp2_with fail
  refine (HFU.out _ (Fr.refl _ _)).mono ?_
  rintro e w1 ⟨t1, v1, rfl, how⟩
  have HOW := Lib.hid how; clear how
  clear HFU
  go_wp2_with fail
  refine (Few_any t1 v1 (Fb.full s.t s.o n) _ HFL.out HFW.out HOW.out.at_).mono ?_
  rintro e w2 hd
  rcases hd with ⟨h1, _⟩ | ⟨_, t2, v2, rfl, hT, ht, hv, hf⟩
  · exact absurd H40.out (by omega)
  · have how2 : Ow w w2 t2 v2 (Fb.small s.t s.o n) := ⟨hT, Nat.le_trans HOW.out.f.size ht, fun g hg => Nat.le_trans HOW.out.f.size (hv g hg), HOW.out.f.trans hf⟩
    clear hT ht hv hf HOW
    have HOW := Lib.hid how2; clear how2
    go_wp2
    go_ret
    exact ⟨t2, v2, rfl, HOW.out⟩
theorem PSmall_no (q : PIds) (n : Int) (w : World) (hn : ¬ Nt.isN n) :
    Calls Tryz.prog 51 #[.pointer (some ⟨q.p, 0, none⟩), .int .i64 n] w (fun e w' => e = .returned (.pointer none) ∧ w = w') := by
  have HN := Lib.hid hn; clear hn
  go_enter Tryz.func51, Tryz.ntmps51
  go_wp2_with fail
  refine (PFull_no q n _ HN.out).mono ?_; rintro e w' ⟨rfl, rfl⟩
  go_wp2
  go_ret
  exact ⟨rfl, rfl⟩
end Go.Proofs.YtffoilacaffdgaaGreatDoor
/- A post behind a script, as the laws hold it; what all laws of owners begin with. -/
namespace Go.Proofs.YtffoilacaffdgaaGreatDoor
open Go.RowKit Go.Deep

/-- The walk of Look over a table in memory. -/
theorem LookT_any (t : Nat) (v : Value) (L : List Tb.Rt) (x : Int) (w : World) (hl : L.length ≤ 1000) (h : TAt w t v L) :
    Calls Tryz.prog 120 #[.pointer (some ⟨t, 0, none⟩), .int .i64 x] w (IntFr (Tb.look L x) w) := by
  obtain ⟨a, c, _, hr, _, hc⟩ := h.shape
  exact Look_any t a c L x w hl hr hc
end Go.Proofs.YtffoilacaffdgaaGreatDoor
/- It settles. -/
namespace Go.Proofs.YtffoilacaffdgaaGreatDoor.Nt
open Nd

def tw (t : NT) (a b k : Nat) : Nw := ⟨(t.N a).me, b, k, (t.N a).wS k, (t.N a).wD k⟩
/-- One hears one news of what another one tells now. -/
def ev (t : NT) (a b k : Nat) : NT := (Nt.heard t (tw t a b k)).1
section
variable {Inv : NT → Prop} {Φ : NT → Nat → Nat → Prop} {dst : Nat} {C : Nat → Nat → Int} (hd : dst < 6)
  (hC : ∀ t, Inv t → t.C = C) (hself : ∀ a, a < 6 → C a a = 0)
  (hInv : ∀ t a b k, a < 6 → b < 6 → k < 6 → 0 < C a b → a ≠ b → Inv t → Inv (ev t a b k))
  (hest : ∀ t a b, a < 6 → b < 6 → 0 < C a b → a ≠ b → Inv t → Φ (ev t a b dst) b a)
  (hpres : ∀ t a b k f c, a < 6 → b < 6 → k < 6 → 0 < C a b → a ≠ b → c < 6 → f < 6 → Inv t → Φ t c f → Φ (ev t a b k) c f)
include hInv hest hpres
include hd hself
include hC
end

end Go.Proofs.YtffoilacaffdgaaGreatDoor.Nt
/- Letters: where they go by the tables of all nodes. -/
namespace Go.Proofs.YtffoilacaffdgaaGreatDoor.Wk

/-- What a link costs; 0: there is none. -/
def costN (C : Nat → Nat → Int) (a b : Int) : Int := if 0 ≤ a ∧ a < 6 ∧ 0 ≤ b ∧ b < 6 then C a.toNat b.toNat else 0
/-- A letter, from node to node: the nodes, what it costs, where it ends. -/
def tripF (h : Int → Int) (C : Nat → Nat → Int) : Nat → List Int → Int → Int → List Int × Int × Int
  | 0, out, c, _ => (out, c, -1)
  | f + 1, out, c, p => if Nt.isN p then (if p ∈ out then (out, c, -2) else if h p = p then (out ++ [p], c, p) else tripF h C f (out ++ [p]) (c + costN C p (h p)) (h p)) else (out, c, -1)
def tripT (h : Int → Int) (C : Nat → Nat → Int) (src : Int) : List Int × Int × Int := tripF h C 7 [] 0 src
/-- From node to node, to where it ends. -/
inductive Wy (h : Int → Int) : Int → List Int → Int → Prop
  | off (p : Int) : ¬ Nt.isN p → Wy h p [] (-1)
  | home (p : Int) : Nt.isN p → h p = p → Wy h p [p] p
  | go (p : Int) (l : List Int) (e : Int) : Nt.isN p → h p ≠ p → Wy h (h p) l e → Wy h p (p :: l) e
theorem Wy.head {h : Int → Int} {p : Int} {l : List Int} {e : Int} (w : Wy h p l e) : (¬ Nt.isN p ∧ l = [] ∧ e = -1) ∨ (Nt.isN p ∧ ∃ m, l = p :: m) := by
  cases w with
  | off _ hp => exact .inl ⟨hp, rfl, rfl⟩
  | home _ hp _ => exact .inr ⟨hp, [], rfl⟩
  | go _ m _ hp _ _ => exact .inr ⟨hp, m, rfl⟩
/-- From each node on its way it goes on as it would have from there. -/
theorem Wy.drop {h : Int → Int} {p : Int} {l : List Int} {e : Int} (w : Wy h p l e) : ∀ k, k < l.length → Wy h (l.getD k 0) (l.drop k) e := by
  induction w with
  | off p hp => intro k hk; simp at hk
  | home p hp hh =>
    intro k hk
    obtain rfl : k = 0 := by simp at hk; omega
    exact .home p hp hh
  | go p l e hp hne w ih =>
    intro k hk
    cases k with
    | zero => exact .go p l e hp hne w
    | succ k => exact ih k (by simp at hk; omega)
theorem Wy.congr {h h' : Int → Int} (hh : ∀ p, Nt.isN p → h p = h' p) {p : Int} {l : List Int} {e : Int} (w : Wy h p l e) : Wy h' p l e := by
  induction w with
  | off p hp => exact .off p hp
  | home p hp e => exact .home p hp (by rw [← hh p hp]; exact e)
  | go p l e hp hne w ih => exact .go p l e hp (by rw [← hh p hp]; exact hne) (by rw [← hh p hp]; exact ih)
theorem Wy.nodes {h : Int → Int} {p : Int} {l : List Int} {e : Int} (w : Wy h p l e) : ∀ x ∈ l, Nt.isN x := by
  induction w with
  | off p hp => intro x hx; cases hx
  | home p hp _ => intro x hx; rw [List.mem_singleton.1 hx]; exact hp
  | go p l e hp _ _ ih =>
    intro x hx
    rcases List.mem_cons.1 hx with rfl | hx
    · exact hp
    · exact ih x hx
theorem Wy.ends {h : Int → Int} {p : Int} {l : List Int} {e : Int} (w : Wy h p l e) : e = -1 ∨ (Nt.isN e ∧ h e = e) := by
  induction w with
  | off p hp => exact .inl rfl
  | home p hp hh => exact .inr ⟨hp, hh⟩
  | go p l e _ _ _ ih => exact ih

/-- Where letters go next: by nodes' tables, to whose address it is. -/
def hopA (t : Nt.NT) (owner : Int) (p : Int) : Int := if owner = -1 then -1 else hopT t owner p
end Go.Proofs.YtffoilacaffdgaaGreatDoor.Wk
