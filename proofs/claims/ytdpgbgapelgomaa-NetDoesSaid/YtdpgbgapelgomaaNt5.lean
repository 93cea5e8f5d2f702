/- Walks over package net: New, News, Way, Best. -/
import Derived.Test.YtdpgbgapelgomaaNt4
namespace Go.Proofs.Ytdpgbgapelgomaa
open Go.RowKit Go.Deep

def CloneNews (l : List Nt.Nw) (w : World) (e : Ending) (w' : World) : Prop := ∃ v, e = .returned v ∧ SlN w' w.heap.size v l.length (nwI l) ∧ Fr NoB w w'
set_option maxRecDepth 100000 in
set_option maxHeartbeats 2000000 in
theorem Clone_any (v : Value) (l : List Nt.Nw) (w : World) (hl : l.length ≤ 1000) (h : SlN w 0 v l.length (nwI l)) :
    Calls Try.prog 73 #[v] w (CloneNews l w) := by
  rcases h.2 with ⟨rfl, h0⟩ | ⟨g, cap, cur, rfl, _, _, _⟩
  · have e : l = [] := List.eq_nil_of_length_eq_zero h0
    subst e
    clear h h0
    go_enter Try.func73, Try.ntmps73
    have hnil := fun w => Go.Lib.run_eql_slice_nil (P := Try.prog) w 52 49 none 0 0 0 0 Try.underlying52
    go_wp2
    go_ret
    exact ⟨_, rfl, World.ownsRow_nil _ _ _ _, Fr.refl _ _⟩
  · have H := Lib.hid h; clear h
    go_enter Try.func73, Try.ntmps73
    have hnil := fun w => Go.Lib.run_eql_slice_nil (P := Try.prog) w 52 49 (some ⟨g, 0, none⟩) l.length cap 0 0 Try.underlying52
    go_wp2_with (at_builtin; go_loud (refine app_own (by rfl) (.tmp 5) (.tmp 6) 52 49 5 40 (.agg #[.int .i64 0, .int .i64 0, .int .i64 0, .int .i64 0, .int .i64 0]) (by rfl) Try.underlying52 Try.info49 rfl (by omega) w.heap.size (.slice (some ⟨w.heap.size, 0, none⟩) 0 0) 0 [] (by rfl) ⟨rfl, .inr ⟨w.heap.size, 0, #[], rfl, Nat.le_refl _, heap_alloc_new w _, Nat.le_refl _, by unfold maxLen; omega, rfl, rfl⟩⟩ ⟨g, 0, none⟩ l.length cap ((nwI l).map (Value.int .i64)) (by rfl) (by rw [List.length_map, nwI_len]) (fun j u hu => news_rd (World.ownsRow.alloc H.out _) j u g rfl hu) (by intro u hu; obtain ⟨y, _, rfl⟩ := List.mem_map.1 hu; rfl) (by omega) (by omega) (by simp) ?_))
    intro v' w1 h1 hf
    have h1 : SlN w1 w.heap.size v' l.length (nwI l) := by
      unfold SlN
      simpa using h1
    have hf1 : Fr NoB w w1 := ((Fr.refl NoB w).alloc (.cells #[] 49)).trans' hf (fun i hi h => by
      simp only [Value.ownBlock, Option.some.injEq] at h
      omega)
    clear hf
    have H1 := Lib.hid h1; clear h1; have HF1 := Lib.hid hf1; clear hf1
    go_wp2
    go_ret
    exact ⟨_, rfl, H1.out, HF1.out⟩
def NewsPost (t : Nt.NT) (w : World) (e : Ending) (w' : World) : Prop := ∃ v, e = .returned v ∧ SlN w' w.heap.size v t.news.length (nwI t.news) ∧ Fr NoB w w'
set_option maxHeartbeats 2000000 in
theorem News_any (x : Ids) (v : Value) (t : Nt.NT) (w : World) (hl : t.news.length ≤ 1000) (h : NtAt w x v t) :
    Calls Try.prog 46 #[.pointer (some ⟨x.b, 0, none⟩)] w (NewsPost t w) := by
  have c7 := h.c7
  have H := Lib.hid h; clear h
  go_enter Try.func46, Try.ntmps46
  go_wp2_with fail
  refine (Clone_any v t.news _ hl H.out.news).mono ?_
  rintro e w1 ⟨v', rfl, h1, hf⟩
  have H1 := Lib.hid h1; clear h1; have HF := Lib.hid hf; clear hf
  go_wp2
  go_ret
  exact ⟨_, rfl, H1.out, HF.out⟩
set_option maxRecDepth 100000 in
set_option maxHeartbeats 2000000 in
theorem NWay_in (x : Ids) (v : Value) (t : Nt.NT) (a b : Nat) (w : World) (ha : a < 6) (hb : b < 6) (h : NtAt w x v t) :
    Calls Try.prog 47 #[.pointer (some ⟨x.b, 0, none⟩), .int .i64 a, .int .i64 b] w (WayIn (t.N a) b w) := by
  have c1 := h.cN ha
  have hbl := h.lt (.inl rfl)
  have H := Lib.hid h; clear h
  go_enter Try.func47, Try.ntmps47
  go_wp2_with fail
  refine (Node_yes _ _ (by omega) (by omega)).mono ?_; rintro e w' ⟨rfl, rfl⟩
  go_wp2_with fail
  refine (Way_in (x.N a) b (t.N a) _ hb ((H.out.node a ha).alloc _)).mono ?_
  rintro e w1 ⟨rfl, hf⟩
  have hr := hf.row (rowIs_new w 3 (.int .i64 0) 56) (fun h => h)
  have hf1 : Fr NoB w w1 := ((Fr.refl _ w).alloc _).trans hf
  have z0 := World.rowIs.cell hr (i := 0) (by omega)
  have z1 := World.rowIs.cell hr (i := 1) (by omega)
  have z2 := World.rowIs.cell hr (i := 2) (by omega)
  have y0 := World.rowIs.frozen hr 0
  have y1 := World.rowIs.frozen hr 1
  have y2 := World.rowIs.frozen hr 2
  clear hf H c1 hbl
  have HF := Lib.hid hf1; clear hf1; have HR := Lib.hid hr; clear hr
  generalize hp : w.heap.size = p at *
  go_wp2
  refine bodyPost_ret (v := .agg #[.int .i64 ((t.N a).wS b), .int .i64 ((t.N a).wD b), .int .i64 ((t.N a).wH b)]) ?_ rfl ⟨rfl, ((HF.out.setNew (by omega) _ _).setNew (by omega) _ _).setNew (by omega) _ _⟩
  have hR := World.rowIs.set (World.rowIs.set (World.rowIs.set HR.out 0 (.int .i64 ((t.N a).wS b))) 1 (.int .i64 ((t.N a).wD b))) 2 (.int .i64 ((t.N a).wH b))
  have s0 := World.rowIs.cell hR (i := 0) (by omega)
  have s1 := World.rowIs.cell hR (i := 1) (by omega)
  have s2 := World.rowIs.cell hR (i := 2) (by omega)
  clear hR
  generalize ((w1.setCell ⟨p, 0, none⟩ (.int .i64 ((t.N a).wS b))).setCell ⟨p, 1, none⟩ (.int .i64 ((t.N a).wD b))).setCell ⟨p, 2, none⟩ (.int .i64 ((t.N a).wH b)) = W5 at *
  simp at s0 s1 s2
  simp [results, Try.results47, go_sem, s0, s1, s2]
set_option maxRecDepth 100000 in
set_option maxHeartbeats 2000000 in
theorem NBest_in (x : Ids) (v : Value) (t : Nt.NT) (a b : Nat) (w : World) (ha : a < 6) (hb : b < 6) (h : NtAt w x v t) :
    Calls Try.prog 49 #[.pointer (some ⟨x.b, 0, none⟩), .int .i64 a, .int .i64 b] w (BestIn (t.N a) b w) := by
  have c1 := h.cN ha
  have H := Lib.hid h; clear h
  go_enter Try.func49, Try.ntmps49
  go_wp2_with fail
  refine (Node_yes _ _ (by omega) (by omega)).mono ?_; rintro e w' ⟨rfl, rfl⟩
  go_wp2_with fail
  refine (Best_in (x.N a) b (t.N a) _ hb (H.out.node a ha)).mono ?_
  rintro e w1 ⟨rfl, hf⟩
  have HF := Lib.hid hf; clear hf
  go_wp2
  go_ret2
  exact ⟨rfl, HF.out⟩
def NewNtPost (w : World) (e : Ending) (w' : World) : Prop := ∃ (x : Ids) (v : Value), e = .returned (.pointer (some ⟨x.b, 0, none⟩)) ∧ NtAt w' x v Nt.begun ∧ Fr NoB w w' ∧ ∀ i, Ft x v i → w.heap.size ≤ i
/-- The first k nodes are there. -/
def NewRel (w : World) (b L : Nat) (i : Value) (wr : World) : Prop :=
  ∃ (k : Nat) (N : Nat → Nat), k ≤ 6 ∧ i = .int .i64 k ∧ CAt wr L 103 (fun _ _ => 0) ∧ wr.rowIs b 88 8 (fun j => if j = 0 then .pointer (some ⟨L, 0, none⟩) else if j < 7 then (if j - 1 < k then .pointer (some ⟨N (j - 1), 0, none⟩) else .pointer none) else .slice none 0 0) ∧
    (∀ j, j < k → NAt wr (N j) 110 (Nd.fresh j)) ∧ (∀ j, j < k → w.heap.size ≤ N j) ∧ (∀ j l, j < k → l < k → N j = N l → j = l) ∧ w.heap.size ≤ b ∧ w.heap.size ≤ L ∧ Fr NoB w wr
set_option maxRecDepth 100000 in
set_option maxHeartbeats 4000000 in
theorem NewNt (w : World) : Calls Try.prog 44 #[] w (NewNtPost w) := by
  go_enter Try.func44, Try.ntmps44
  go_wp2_with fail
  refine (NewL _).mono ?_
  rintro e w1 ⟨rfl, hL, hf⟩
  have HL := Lib.hid hL; clear hL; have HF := Lib.hid hf; clear hf
  go_wp2
  refine wp_name fun w2 hw2 => ?_
  have hfa : Fr NoB w1 w2 := by rw [hw2]; exact (Fr.refl _ _).alloc _
  have hrow : w2.rowIs w1.heap.size 88 8 (fun j => if j = 0 then .pointer (some ⟨w.heap.size, 0, none⟩) else if j < 7 then (if j - 1 < 0 then .pointer (some ⟨(fun _ => 0) (j - 1), 0, none⟩) else .pointer none) else .slice none 0 0) := by
    rw [hw2]
    exact World.rowIs_alloc w1 _ _ _ (fun i hi => by
      match i, hi with
      | 0, _ => rfl
      | 1, _ => rfl
      | 2, _ => rfl
      | 3, _ => rfl
      | 4, _ => rfl
      | 5, _ => rfl
      | 6, _ => rfl
      | 7, _ => rfl)
  have hL := hfa.row HL.out (fun h => h)
  have hz := HF.out.size
  have hf := HF.out.trans hfa
  have hbL : w.heap.size < w1.heap.size := World.rowIs.lt HL.out
  clear hw2 hfa HL HF
  generalize hL' : w.heap.size = L at *
  generalize w1.heap.size = b at *
  have HL := Lib.hid hL; clear hL; have HF := Lib.hid hf; clear hf; have HRO := Lib.hid hrow; clear hrow; have HZ := Lib.hid hz; clear hz; have HLL := Lib.hid hL'; clear hL'
  go_loopw [6] (fun i wr => NewRel w b L i wr) (fun i _ => 6 - (intOf i).toNat)
  case atStart => exact ⟨0, fun _ => 0, by omega, rfl, HL.out, HRO.out, fun j h => by omega, fun j h => by omega, fun j l h => by omega, by have := HZ.out; have := HLL.out; omega, by have := HLL.out; omega, HF.out⟩
  case round =>
    clear HL HF HRO HZ
    obtain ⟨k, N, hk, rfl, hL, hrow, hn, hN, hinj, hb, hLz, hf⟩ := hrel
    have HL := Lib.hid hL; clear hL; have HRO := Lib.hid hrow; clear hrow; have HN := Lib.hid hn; clear hn; have HNN := Lib.hid hN; clear hN; have HI := Lib.hid hinj; clear hinj; have HB := Lib.hid hb; clear hb; have HLZ := Lib.hid hLz; clear hLz; have HF := Lib.hid hf; clear hf
    by_cases hk6 : k < 6
    · have hki : (k : Int) < 6 := by omega
      have c1 := World.rowIs.cell HRO.out (i := 1 + k) (by omega)
      rw [if_neg (by omega), if_pos (by omega), if_neg (by omega)] at c1
      have f1 := World.rowIs.frozen HRO.out (1 + k)
      go_wp2_with fail
      go_region_held3 (fun W => (W.cell? ⟨b, 1 + k, none⟩).isSome = true ∧ W.frozen? ⟨b, 1 + k, none⟩ = false)
        (first | exact ⟨congrArg Option.isSome c1, f1⟩ | exact ⟨congrArg Option.isSome t1, t2⟩ | exact ⟨congrArg Option.isSome (World.cell?_setCell_same' _ _ _ (congrArg Option.isSome t1)), World.rowIs.frozen (World.rowIs.set hro6 (1 + k) _) _⟩)
        ((go_at_call 29; refine (New_yes k _ hk6).mono ?_; rintro e w6 ⟨rfl, hnn, hff⟩; have hro6 := hff.row (World.rowIs.drew HRO.out) (fun h => h); have t1 := cell_fr hff c1 (fun h => h); have t2 := World.rowIs.frozen hro6 (1 + k)))
      have hnn : NAt w6 wr.heap.size 110 (Nd.fresh k) := hnn
      have hrow : (w6.setCell ⟨b, 1 + k, none⟩ (.pointer (some ⟨wr.heap.size, 0, none⟩))).rowIs b 88 8 (fun j => if j = 0 then .pointer (some ⟨L, 0, none⟩) else if j < 7 then (if j - 1 < k + 1 then .pointer (some ⟨if j - 1 = k then wr.heap.size else N (j - 1), 0, none⟩) else .pointer none) else .slice none 0 0) := by
        refine (World.rowIs.set hro6 (1 + k) _).congr (fun i hi => ?_)
        by_cases e : i = 1 + k
        · subst e
          rw [if_pos rfl, if_neg (by omega), if_pos (by omega), if_pos (by omega), if_pos (by omega)]
        · rw [if_neg e]
          by_cases h0 : i = 0
          · rw [if_pos h0, if_pos h0]
          · rw [if_neg h0, if_neg h0]
            by_cases h7 : i < 7
            · rw [if_pos h7, if_pos h7]
              by_cases hk1 : i - 1 < k
              · rw [if_pos hk1, if_pos (by omega), if_neg (by omega)]
              · rw [if_neg hk1, if_neg (by omega)]
            · rw [if_neg h7, if_neg h7]
      have hbz : b < wr.heap.size := World.rowIs.lt HRO.out
      have hLw : L < wr.heap.size := World.rowIs.lt HL.out
      have hfs : Fr (OneB b) w6 (w6.setCell ⟨b, 1 + k, none⟩ (.pointer (some ⟨wr.heap.size, 0, none⟩))) := (Fr.refl _ _).set1 _ _
      have hL2 := hfs.row (hff.row (World.rowIs.drew HL.out) (fun h => h)) (fun h : L = b => by omega)
      have hwz : w.heap.size ≤ wr.heap.size := HF.out.size
      have hn2 : ∀ j, j < k + 1 → NAt (w6.setCell ⟨b, 1 + k, none⟩ (.pointer (some ⟨wr.heap.size, 0, none⟩))) (if j = k then wr.heap.size else N j) 110 (Nd.fresh j) := by
        intro j hj
        by_cases e : j = k
        · rw [if_pos e, e]; exact hnn.keep hfs (fun h : wr.heap.size = b => by omega)
        · rw [if_neg e]
          have h1 := HN.out j (by omega)
          exact (NAt.keep (w := wr.drew) (World.rowIs.drew h1) hff (fun h => h)).keep hfs (fun h : N j = b => rows_apart HRO.out h1 (by decide) h.symm)
      have hf2 : Fr NoB w (w6.setCell ⟨b, 1 + k, none⟩ (.pointer (some ⟨wr.heap.size, 0, none⟩))) := (HF.out.drew.trans hff).setNew HB.out _ _
      have hi2 : ∀ j l, j < k + 1 → l < k + 1 → (if j = k then wr.heap.size else N j) = (if l = k then wr.heap.size else N l) → j = l := by
        intro j l hj hl h
        by_cases e : j = k
        · by_cases e' : l = k
          · omega
          · rw [if_pos e, if_neg e'] at h
            have := (HN.out l (by omega)).lt
            omega
        · by_cases e' : l = k
          · rw [if_neg e, if_pos e'] at h
            have := (HN.out j (by omega)).lt
            omega
          · rw [if_neg e, if_neg e'] at h
            exact HI.out j l (by omega) (by omega) h
      clear hro6 t1 t2 hff hfs hnn c1 f1
      have HR2 := Lib.hid hrow; clear hrow; have HL2 := Lib.hid hL2; clear hL2; have HN2 := Lib.hid hn2; clear hn2; have HF2 := Lib.hid hf2; clear hf2; have HI2 := Lib.hid hi2; clear hi2
      go_wp2
      go_roundw
      case rel => exact ⟨k + 1, fun j => if j = k then wr.heap.size else N j, by omega, by go_num, HL2.out, HR2.out, HN2.out, fun j hj => by
        dsimp only
        by_cases e : j = k
        · rw [if_pos e]; exact hwz
        · rw [if_neg e]; exact HNN.out j (by omega), HI2.out, HB.out, HLZ.out, HF2.out⟩
      case measure => simp [intOf]; omega
    · obtain rfl : k = 6 := by omega
      go_wp2
      go_ret
      refine ⟨⟨b, L, N⟩, .slice none 0 0, rfl, ⟨HRO.out.congr (fun i hi => ?_), HL.out, HN.out, World.ownsRow_nil _ _ _ _, fun j k hj hk h => HI.out j k hj hk h⟩, HF.out, fun i hi => ?_⟩
      · unfold netF
        by_cases h0 : i = 0
        · rw [if_pos h0, if_pos h0]
        · rw [if_neg h0, if_neg h0]
          by_cases h7 : i < 7
          · rw [if_pos h7, if_pos h7, if_pos (by omega)]
          · rw [if_neg h7, if_neg h7]
      · rcases hi with rfl | rfl | ⟨k, hk, rfl⟩ | hi
        · exact HB.out
        · exact HLZ.out
        · exact HNN.out k hk
        · cases hi
end Go.Proofs.Ytdpgbgapelgomaa
