/- Walks: trie.Of, Leaves, Size. -/
import Derived.Test.YtdkkeaegmmepfaaTr2
namespace Go.Proofs.Ytdkkeaegmmepfaa
open Go.RowKit Go.Deep

theorem allOf_get (L : List Tb.Rt) {n : Nat} (h : n < 256) : (Tb.allOf L).getD n 0 = Tb.look L n := by
  unfold Tb.allOf
  rw [List.getD_eq_getElem?_getD, List.getElem?_map, List.getElem?_range h]
  rfl
theorem rdl_row {w : World} {g : Nat} {hs : List Int} {f : Nat → Int} (h : w.rowIs g 3 256 (I f)) (hl : hs.length = 256) (hf : ∀ n, n < 256 → hs.getD n 0 = f n) : RdL w (some ⟨g, 0, none⟩) hs := by
  intro k hk
  rw [hl] at hk
  obtain ⟨b, o, e, c⟩ := Rd.row h k hk
  exact ⟨b, o, e, by dsimp only; rw [hf k hk]; exact c⟩
theorem fit_all {hs : List Int} (hl : hs.length = 256) : Tb.Fit 8 ⟨0, 0⟩ hs := ⟨by decide, by decide, by rw [hl]; decide⟩
set_option maxRecDepth 100000 in
set_option maxHeartbeats 4000000 in
theorem TOf_any (t : Nat) (v : Value) (L : List Tb.Rt) (w : World) (hl : L.length ≤ 1000) (hw : Tb.Wf L) (h : TAt w t v L) :
    Calls Try.prog 19 #[.pointer (some ⟨t, 0, none⟩)] w (OfTPost (Tb.mkT 8 ⟨0, 0⟩ (Tb.allOf L)) w) := by
  obtain ⟨a, c, rfl, hr, _, hc⟩ := h.shape
  have HR := Lib.hid hr; clear hr; have HW := Lib.hid hw; clear hw
  clear h
  go_enter Try.func19, Try.ntmps19
  go_wp2_with fail
  refine (All_any t a c L _ hl HW.out HR.out hc).mono ?_
  rintro e w1 ⟨g, rfl, _, hrow, hf⟩
  have hrd := rdl_row (hs := Tb.allOf L) hrow (Tb.allOf_len L) (fun n hn => allOf_get L hn)
  have hof := of_any 8 0 0 (Tb.allOf L) (some ⟨g, 0, none⟩) 256 w1 (fit_all (Tb.allOf_len L)) hrd (by rw [Tb.allOf_len]; omega) (by omega)
  rw [Tb.allOf_len] at hof
  generalize Tb.mkT 8 ⟨0, 0⟩ (Tb.allOf L) = T at *
  have HOF := Lib.hid hof; clear hof; have HF := Lib.hid hf; clear hf
  clear hrow hrd
  go_wp2_with fail
  refine HOF.out.mono ?_
  rintro e w2 ⟨b, rfl, ht, hf⟩
  have HT := Lib.hid ht
  have HF2 := Lib.hid (HF.out.trans hf)
  clear ht hf
  go_wp2
  go_ret
  exact ⟨b, rfl, HT.out, HF2.out⟩
def LvPost (R : List Tb.Rt) (w : World) (e : Ending) (w' : World) : Prop := ∃ v, e = .returned v ∧ SlR w' w.heap.size v R ∧ Fr NoB w w'
theorem leaves_pos : ∀ T : Tb.Tr, 0 < (Tb.leaves T).length
  | .leaf _ _ => by simp [Tb.leaves]
  | .node _ l r => by have := leaves_pos l; simp [Tb.leaves]; omega
theorem one_route (w : World) (r : Tb.Rt) : SlR (w.alloc (.cells #[.int .i64 r.p.len, .int .i64 r.p.bits, .int .i64 r.hop] 33)) w.heap.size (.slice (some ⟨w.heap.size, 0, none⟩) 1 1) [r] := by
  refine row_own (f := rtV r) (cap := 1) (new_row3 w r) (Nat.le_refl _) (Nat.le_refl _) (by unfold maxLen; omega) rfl (fun k hk => ?_)
  match k, hk with
  | 0, _ => rfl
  | 1, _ => rfl
  | 2, _ => rfl
theorem sl_some {w : World} {base : Nat} {v : Value} {B : List Tb.Rt} (h : SlR w base v B) (hp : 0 < B.length) : ∃ g q, v = .slice (some ⟨g, 0, none⟩) B.length q ∧ Hid (Rs w (some ⟨g, 0, none⟩) B) := by
  obtain ⟨a, cap, rfl, hr, _, _⟩ := h.shape
  obtain ⟨_, _, e, _, _, _, _, _, hz⟩ := ownsRow_rd h
  cases e
  obtain ⟨b, o, rfl, _⟩ := hr 0 hp
  have := hz _ rfl
  simp only [Addr.mk.injEq] at this
  obtain ⟨_, rfl, _⟩ := this
  exact ⟨b, cap, rfl, hr⟩
def SizeSaid (T : Tb.Tr) : Prop := ∀ (b : Nat) (w : World), TrAt w T b → (Tb.leaves T).length ≤ 1000 → Calls Try.prog 20 #[.pointer (some ⟨b, 0, none⟩)] w (IntFr ((Tb.leaves T).length : Nat) w)
set_option maxRecDepth 100000 in
set_option maxHeartbeats 4000000 in
theorem size_leaf (p : Tb.Pf) (h : Int) : SizeSaid (.leaf p h) := by
  intro b w ht _
  have HT := Lib.hid ht
  clear ht
  go_enter Try.func20, Try.ntmps20
  go_wp2_with fail
  refine (Leaf_any _ b _ HT.out).mono ?_
  rintro e w1 ⟨rfl, rfl⟩
  dsimp only [Tb.Tr.isLeaf]
  go_wp2
  go_ret
  exact ⟨rfl, Fr.refl _ _⟩
set_option maxRecDepth 100000 in
set_option maxHeartbeats 4000000 in
theorem size_node (p : Tb.Pf) (tl tr : Tb.Tr) (IHL : SizeSaid tl) (IHR : SizeSaid tr) : SizeSaid (.node p tl tr) := by
  intro b w ht hlen
  have e : (Tb.leaves (.node p tl tr)).length = (Tb.leaves tl).length + (Tb.leaves tr).length := by show (Tb.leaves tl ++ Tb.leaves tr).length = _; rw [List.length_append]
  have hlen' : (Tb.leaves tl).length + (Tb.leaves tr).length ≤ 1000 := by omega
  have hlf := Leaf_any _ b _ ht
  obtain ⟨bl, br, hn, hl, hr⟩ := ht
  have c3 := hn.c3
  have c4 := hn.c4
  rw [e]
  have ihl := fun W (hW : Fr NoB w W) => IHL bl W (hl.keep0 hW) (by omega)
  have ihr := fun W (hW : Fr NoB w W) => IHR br W (hr.keep0 hW) (by omega)
  generalize (Tb.leaves tl).length = A at *
  generalize (Tb.leaves tr).length = B at *
  have hsum := IntWalk.i64_in ((A : Int) + (B : Int)) (by omega)
  have HE := Lib.hid (ret_int (k := .i64) (show (A : Int) + (B : Int) = ((A + B : Nat) : Int) by omega))
  have IL := Lib.hid ihl; clear ihl; have IR := Lib.hid ihr; clear ihr; have HLF := Lib.hid hlf; clear hlf
  clear hn hl hr IHL IHR hlen hlen' e
  go_enter Try.func20, Try.ntmps20
  go_wp2_with fail
  refine HLF.out.mono ?_
  rintro e w1 ⟨rfl, rfl⟩
  dsimp only [Tb.Tr.isLeaf]
  go_upto_region 3 with fail
  have HD := Lib.hid (Fr.drew (Fr.refl NoB w))
  (refine wp_region_held_drew (S := (fun W => W.cell? ⟨b, 3, none⟩ = some (.pointer (some ⟨bl, 0, none⟩)) ∧ W.cell? ⟨b, 4, none⟩ = some (.pointer (some ⟨br, 0, none⟩)))) (by kernel_rfl) ⟨c3, c4⟩ (fun hHeld => ?_))
  (refine wpAnyH_take (i := 0) (v := ?_) (by simp only [List.getElem?_toArray, List.getElem?_cons_zero]; rfl) (by kernel_rfl) (by kernel_rfl) (by kernel_rfl) (by exact fun _ _ _ h => h) (Or.inl ⟨by rfl, ?_⟩) hHeld ?_; rotate_left; (focus (intro w hSw; (try dsimp only at hSw); go_simp; all_goals with_reducible rfl)); (try simp only [Act.put, List.setIfInBounds_toArray, List.set_cons_zero, List.set_cons_succ])); (refine wpAnyH_take (i := 1) (v := ?_) (by simp only [List.getElem?_toArray, List.getElem?_cons_succ, List.getElem?_cons_zero]; rfl) (by kernel_rfl) (by kernel_rfl) (by kernel_rfl) (by exact fun _ _ _ h => h) (Or.inl ⟨by rfl, ?_⟩) hHeld ?_; rotate_left; (focus (intro w hSw; (try dsimp only at hSw); go_simp; all_goals with_reducible rfl)); (try simp only [Act.put, List.setIfInBounds_toArray, List.set_cons_zero, List.set_cons_succ])); (refine wpAnyH_take (i := 2) (v := ?_) (by simp only [List.getElem?_toArray, List.getElem?_cons_succ, List.getElem?_cons_zero]; rfl) (by kernel_rfl) (by kernel_rfl) (by kernel_rfl) (by exact fun _ _ _ h => h) (Or.inl ⟨by rfl, ?_⟩) hHeld ?_; rotate_left; (focus (intro w hSw; (try dsimp only at hSw); go_simp; all_goals with_reducible rfl)); (try simp only [Act.put, List.setIfInBounds_toArray, List.set_cons_zero, List.set_cons_succ])); (refine wpAnyH_take (i := 3) (v := ?_) (by simp only [List.getElem?_toArray, List.getElem?_cons_succ, List.getElem?_cons_zero]; rfl) (by kernel_rfl) (by kernel_rfl) (by kernel_rfl) (by exact fun _ _ _ h => h) (Or.inl ⟨by rfl, ?_⟩) hHeld ?_; rotate_left; (focus (intro w hSw; (try dsimp only at hSw); go_simp; all_goals with_reducible rfl)); (try simp only [Act.put, List.setIfInBounds_toArray, List.set_cons_zero, List.set_cons_succ])); (refine wpAnyH_take (i := 5) (v := ?_) (by simp only [List.getElem?_toArray, List.getElem?_cons_succ, List.getElem?_cons_zero]; rfl) (by kernel_rfl) (by kernel_rfl) (by kernel_rfl) (by exact fun _ _ _ h => h) (Or.inl ⟨by rfl, ?_⟩) hHeld ?_; rotate_left; (focus (intro w hSw; (try dsimp only at hSw); go_simp; all_goals with_reducible rfl)); (try simp only [Act.put, List.setIfInBounds_toArray, List.set_cons_zero, List.set_cons_succ])); (refine wpAnyH_take (i := 6) (v := ?_) (by simp only [List.getElem?_toArray, List.getElem?_cons_succ, List.getElem?_cons_zero]; rfl) (by kernel_rfl) (by kernel_rfl) (by kernel_rfl) (by exact fun _ _ _ h => h) (Or.inl ⟨by rfl, ?_⟩) hHeld ?_; rotate_left; (focus (intro w hSw; (try dsimp only at hSw); go_simp; all_goals with_reducible rfl)); (try simp only [Act.put, List.setIfInBounds_toArray, List.set_cons_zero, List.set_cons_succ])); (refine wpAnyH_take (i := 7) (v := ?_) (by simp only [List.getElem?_toArray, List.getElem?_cons_succ, List.getElem?_cons_zero]; rfl) (by kernel_rfl) (by kernel_rfl) (by kernel_rfl) (by exact fun _ _ _ h => h) (Or.inl ⟨by rfl, ?_⟩) hHeld ?_; rotate_left; (focus (intro w hSw; (try dsimp only at hSw); go_simp; all_goals with_reducible rfl)); (try simp only [Act.put, List.setIfInBounds_toArray, List.set_cons_zero, List.set_cons_succ])); (refine wpAnyH_take (i := 8) (v := ?_) (by simp only [List.getElem?_toArray, List.getElem?_cons_succ, List.getElem?_cons_zero]; rfl) (by kernel_rfl) (by kernel_rfl) (by kernel_rfl) (by exact fun _ _ _ h => h) (Or.inl ⟨by rfl, ?_⟩) hHeld ?_; rotate_left; (focus (intro w hSw; (try dsimp only at hSw); go_simp; all_goals with_reducible rfl)); (try simp only [Act.put, List.setIfInBounds_toArray, List.set_cons_zero, List.set_cons_succ]))
  (refine wpAnyH_ready (rs := [4]) (by kernel_rfl) (by simp) ?_; refine AllReadyH.cons (by simp only [List.getElem?_toArray, List.getElem?_cons_succ, List.getElem?_cons_zero]; rfl) (fun K hK => ?_) AllReadyH.nil; go_simp); (refine (IL.out _ HD.out).mono ?_; rintro e w2 ⟨rfl, hf⟩; replace c3 := cell_fr' hf c3 (fun h => h); replace c4 := cell_fr' hf c4 (fun h => h); have HF2 := Lib.hid (HD.out.trans hf); clear hf); (try go_wp2_with fail); (refine hK.out _ _ ⟨c3, c4⟩ (fun hHeld => ?_)); clear hK K; (try simp only [Act.put, List.setIfInBounds_toArray, List.set_cons_zero, List.set_cons_succ])
  (refine wpAnyH_ready (rs := [9]) (by kernel_rfl) (by simp) ?_; refine AllReadyH.cons (by simp only [List.getElem?_toArray, List.getElem?_cons_succ, List.getElem?_cons_zero]; rfl) (fun K hK => ?_) AllReadyH.nil; go_simp); (refine (IR.out _ HF2.out).mono ?_; rintro e w3 ⟨rfl, hf⟩; replace c3 := cell_fr' hf c3 (fun h => h); replace c4 := cell_fr' hf c4 (fun h => h); have HF3 := Lib.hid (HF2.out.trans hf); clear hf); (try go_wp2_with fail); (refine hK.out _ _ ⟨c3, c4⟩ (fun hHeld => ?_)); clear hK K; (try simp only [Act.put, List.setIfInBounds_toArray, List.set_cons_zero, List.set_cons_succ])
  (refine wpAnyH_take (i := 10) (v := ?_) (by simp only [List.getElem?_toArray, List.getElem?_cons_succ, List.getElem?_cons_zero]; rfl) (by kernel_rfl) (by kernel_rfl) (by kernel_rfl) (by exact fun _ _ _ h => h) (Or.inl ⟨by rfl, ?_⟩) hHeld ?_; rotate_left; (focus (intro w hSw; (try dsimp only at hSw); go_simp; all_goals with_reducible rfl)); (try simp only [Act.put, List.setIfInBounds_toArray, List.set_cons_zero, List.set_cons_succ])); (refine wpAnyH_take (i := 11) (v := ?_) (by simp only [List.getElem?_toArray, List.getElem?_cons_succ, List.getElem?_cons_zero]; rfl) (by kernel_rfl) (by kernel_rfl) (by kernel_rfl) (by exact fun _ _ _ h => h) (Or.inl ⟨by rfl, ?_⟩) hHeld ?_; rotate_left; (focus (intro w hSw; (try dsimp only at hSw); go_simp; all_goals with_reducible rfl)); (try simp only [Act.put, List.setIfInBounds_toArray, List.set_cons_zero, List.set_cons_succ]))
  (refine wpAnyH_done (by kernel_rfl) ?_ _)
  go_wp2
  go_ret
  exact ⟨HE.out, HF3.out⟩
theorem size_any : ∀ T, SizeSaid T
  | .leaf p h => size_leaf p h
  | .node p l r => size_node p l r (size_any l) (size_any r)
theorem lv_len : ∀ (d : Nat) (p : Tb.Pf) (hs : List Int), Tb.Fit d p hs → 0 < (Tb.lv d p hs).length ∧ (Tb.lv d p hs).length ≤ hs.length
  | 0, _, _, h => ⟨by simp [Tb.lv], by have := h.pos; simp [Tb.lv]; omega⟩
  | d + 1, p, hs, h => by
    unfold Tb.lv
    split
    · exact ⟨by simp, by have := h.pos; simp; omega⟩
    · obtain ⟨a1, a2⟩ := lv_len d _ _ h.low
      obtain ⟨b1, b2⟩ := lv_len d _ _ h.high
      rw [Tb.lowH_len] at a2
      rw [Tb.highH_len] at b2
      rw [List.length_append]
      omega
theorem lv_alike {d : Nat} {p : Tb.Pf} {hs : List Int} (h : Tb.alike hs) : Tb.lv d p hs = [⟨p, hs.getD 0 0⟩] := by
  cases d with
  | zero => rfl
  | succ d => unfold Tb.lv; rw [if_pos h]
end Go.Proofs.Ytdkkeaegmmepfaa
