/- Walks: slices.Insert of one route ahead of another one, where there is no room: a new block. -/
import Derived.Test.YteedndapbfihaaaGreatB21
import Derived.Test.YteedndapbfihaaaGreatB19
namespace Go.Proofs.YteedndapbfihaaaGreat
open Go.RowKit Go.Deep

def z3 : Value := .agg #[.int .i64 0, .int .i64 0, .int .i64 0]
theorem z3_cells (k : Nat) : (Builtin.zeroCells z3.cells k).size = k * 3 := by simp [Builtin.zeroCells, z3, Value.cells]
set_option maxRecDepth 100000 in
set_option maxHeartbeats 4000000 in
theorem Insert_grow (g cap : Nat) (L : List Tb.Rt) (i : Nat) (r : Tb.Rt) (vb : Nat) (w : World) (hl : L.length ≤ 1000) (hi : i < L.length) (hroom : cap ≤ L.length) (h : SlR w 0 (.slice (some ⟨g, 0, none⟩) L.length cap) L)
    (hv : w.rowIs vb 87 3 (rtV r)) :
    Calls Tryz.prog 75 #[.slice (some ⟨g, 0, none⟩) L.length cap, .int .i64 i, .slice (some ⟨vb, 0, none⟩) 1 1] w (InsPost (.slice (some ⟨g, 0, none⟩) L.length cap) L i r w) := by
  obtain ⟨hnc, hcm, _, f, hrow, hx⟩ := own_row h
  have hlen := rtI_len L
  have hcm' : cap ≤ 9223372036854775807 := by unfold maxLen at hcm; omega
  have hgl := World.rowIs.lt hrow
  have hvl := World.rowIs.lt hv
  clear h
  generalize hn : L.length = n at *
  have hcn : cap = n := by omega
  subst hcn
  obtain ⟨xs, hxs⟩ : ∃ xs, xs = (rtI L).map (Value.int .i64) := ⟨_, rfl⟩
  have hxl : xs.length = cap * 3 := by rw [hxs, List.length_map, hlen]
  rw [← hxs] at hx
  have h1x : ∀ u ∈ xs, u.oneCell' = true := by rw [hxs]; exact ints_one _
  have hsrc : ∀ j v, xs[j]? = some v → w.cell? ⟨g, j, none⟩ = some v := fun j v hj => by
    have hjl : j < cap * 3 := by
      have := (List.getElem?_eq_some_iff.1 hj).1
      omega
    rw [hx j hjl] at hj
    cases hj
    exact World.rowIs.cell hrow hjl
  have hsz : (Tryz.prog.info? 87).map (·.size) = some 3 := by
    obtain ⟨i0, hi0, hz0, hz1, hz2⟩ := info_parts Tryz.info87
    rw [hi0]; simp [hz1]
  obtain ⟨i0, hi0, hz0, hzs, hzb⟩ := info_parts Tryz.info87
  have hold : (Builtin.firstCells i0.size i (.slice (some ⟨g, 0, none⟩) i cap)).run Tryz.prog w.drew = .ok (xs.take (i * 3)).toArray w.drew := by
    rw [hzs]
    exact run_firstCells_some w.drew 3 i ⟨g, 0, none⟩ i cap (xs.take (i * 3)) (by rw [List.length_take]; omega) (fun j v hj => by
      rw [add_base]
      rw [List.getElem?_take] at hj
      split at hj
      · exact hsrc j v hj
      · cases hj)
  have hkk : (cap : Int) + 1 - (i : Int) = ((cap + 1 - i : Nat) : Int) := by omega
  have hik : i + (cap + 1 - i) = cap + 1 := by omega
  obtain ⟨G, hG⟩ : ∃ G, G = grownCap w (cap + 1) cap 87 := ⟨_, rfl⟩
  have hGn : cap + 1 ≤ G := by rw [hG]; exact grownCap_ge w _ _ _
  have hG63 : G ≤ maxLen := by
    have := grownCap_le_maxLen w (cap + 1) cap 87 (by unfold maxLen; omega)
    rw [← hG] at this
    exact this
  obtain ⟨ROW, hROW⟩ : ∃ ROW : Array Value, ROW = (xs.take (i * 3)).toArray ++ Builtin.zeroCells z3.cells (cap + 1 - i) ++ Builtin.zeroCells z3.cells (G - (cap + 1)) := ⟨_, rfl⟩
  have hrz : ∀ ty, (Builtin.append_ #[29, 3] ty #[.slice (some ⟨g, 0, none⟩) i cap, .int .i64 ((cap : Int) + 1 - (i : Int))]).run Tryz.prog w =
      .ok (.slice (some ⟨w.heap.size, 0, none⟩) (cap + 1) G) (w.drew.alloc (.cells ROW 87)) := fun ty => by
    have h := Lib.run_append_grow_zeros w 29 3 ty 87 i0 _ .i64 .i64 Tryz.underlying29 Tryz.underlying3 hi0 hz0 (some ⟨g, 0, none⟩) i cap (xs.take (i * 3)) hold (cap + 1 - i) (by omega) (by omega) (by omega) (by omega) (by rw [hzb]; omega) (by rw [hzb, hik]; exact growslice_fits (by omega) (by omega))
    rw [hik, ← hG] at h
    rw [hkk, hROW]
    exact h
  have hRl : ROW.size = G * 3 := by
    rw [hROW]
    simp only [Array.size_append, List.size_toArray, z3_cells, List.length_take]
    omega
  obtain ⟨W1, hW1⟩ : ∃ W1, W1 = w.drew.alloc (.cells ROW 87) := ⟨_, rfl⟩
  have hr1 : W1.rowIs w.heap.size 87 (G * 3) (fun k => ROW.getD k (.int .i64 0)) := by
    rw [hW1, ← hRl]
    exact World.rowIs_alloc w.drew ROW 87 _ (fun k hk => by simp [Array.getD, hk])
  rw [← hW1] at hrz
  have hf1 : Fr NoB w W1 := by rw [hW1]; exact ((Fr.refl _ _).drew).alloc _
  have hv1 : W1.rowIs vb 87 3 (rtV r) := hf1.row hv (fun h => h)
  have hO : ∀ j v, xs[j]? = some v → W1.cell? ⟨g, j, none⟩ = some v := fun j v hj => cell_fr' hf1 (hsrc j v hj) (fun h => h)
  have hcpA : ∀ (W : World), (∀ x, W.cell? x = W1.cell? x) → (∀ x, W.frozen? x = W1.frozen? x) → ∀ ty dc, (Builtin.copy_ #[29, 29] ty #[.slice (some ⟨w.heap.size, i * 3, none⟩) (cap + 1 - i) dc, .slice (some ⟨vb, 0, none⟩) 1 1]).run Tryz.prog W = .ok (goInt (1 : Nat)) (W.setCells w.heap.size (i * 3) (rt3 r)) := fun W hWc hWf ty dc =>
    run_copy_rows W _ _ ty 87 w.heap.size (i * 3) (cap + 1 - i) dc ⟨vb, 0, none⟩ 1 1 (rt3 r) 3 1 Tryz.underlying29 hsz (by simp only [Nat.min_def]; split <;> omega) rfl
      (fun j v hj => by rw [hWc]; exact rt3_at hv1 j v hj)
      (fun j hj => by rw [hWc, World.rowIs.cell hr1 (i := i * 3 + j) (by simp [rt3] at hj; omega)]; rfl) (fun j hj => by rw [hWf]; exact World.rowIs.frozen hr1 _) (rt3_one r)
  obtain ⟨W2, hW2⟩ : ∃ W2, W2 = W1.setCells w.heap.size (i * 3) (rt3 r) := ⟨_, rfl⟩
  have hr2 := rowIs_setCells (rt3 r) (i * 3) _ _ hr1
  have hf2 : Fr (OneB w.heap.size) W1 W2 := by rw [hW2]; exact Fr.setCells (S := OneB w.heap.size) (show OneB w.heap.size w.heap.size from rfl) _ _ (Fr.refl _ _)
  rw [← hW2] at hr2
  have hO2 : ∀ j v, xs[j]? = some v → W2.cell? ⟨g, j, none⟩ = some v := fun j v hj => cell_fr' hf2 (hO j v hj) (fun e : g = w.heap.size => by omega)
  obtain ⟨news, hnews⟩ : ∃ news, news = xs.drop (i * 3) := ⟨_, rfl⟩
  have hnl : news.length = (cap - i) * 3 := by rw [hnews, List.length_drop, hxl]; omega
  have h1n : ∀ u ∈ news, u.oneCell' = true := fun u hu => h1x u (by rw [hnews] at hu; exact List.mem_of_mem_drop hu)
  have hcpB : ∀ (W : World), (∀ x, W.cell? x = W2.cell? x) → (∀ x, W.frozen? x = W2.frozen? x) → ∀ ty dc sc, (Builtin.copy_ #[29, 29] ty #[.slice (some ⟨w.heap.size, (i + 1) * 3, none⟩) (cap - i) dc, .slice (some ⟨g, i * 3, none⟩) (cap - i) sc]).run Tryz.prog W = .ok (goInt (cap - i : Nat)) (W.setCells w.heap.size ((i + 1) * 3) news) := fun W hWc hWf ty dc sc =>
    run_copy_rows W _ _ ty 87 w.heap.size ((i + 1) * 3) (cap - i) dc ⟨g, i * 3, none⟩ (cap - i) sc news 3 (cap - i) Tryz.underlying29 hsz (by simp only [Nat.min_def]; split <;> omega) hnl
      (fun j v hj => by
        rw [Addr.add_lit, hWc]
        exact hO2 _ v (by rwa [hnews, List.getElem?_drop] at hj))
      (fun j hj => by rw [hWc, World.rowIs.cell hr2 (i := (i + 1) * 3 + j) (by omega)]; rfl) (fun j hj => by rw [hWf]; exact World.rowIs.frozen hr2 _) h1n
  have hfin : ∀ W : World, W.rowIs w.heap.size 87 (G * 3) (fun k => if i * 3 ≤ k ∧ k < i * 3 + (rt3 r).length then (rt3 r).getD (k - i * 3) (ROW.getD k (.int .i64 0)) else ROW.getD k (.int .i64 0)) → SlR (W.setCells w.heap.size ((i + 1) * 3) news) 0 (.slice (some ⟨w.heap.size, 0, none⟩) (cap + 1) G) (L.take i ++ r :: L.drop i) := by
    intro W hW
    have hr3 := rowIs_setCells news ((i + 1) * 3) _ _ hW
    have hll : (L.take i ++ r :: L.drop i).length = cap + 1 := by rw [List.length_append, List.length_cons, List.length_take, List.length_drop]; omega
    unfold SlR
    rw [hll]
    refine row_own hr3 (Nat.zero_le _) (by omega) hG63 (by rw [List.length_map, rtI_len, hll]) (fun k hk => ?_)
    have e3 : (rtI (L.take i ++ r :: L.drop i)).map (Value.int .i64) = xs.take (i * 3) ++ (rt3 r ++ xs.drop (i * 3)) := by
      rw [rtI_app, ← rtI_take, hxs, ← List.map_take, ← List.map_drop, rtI_drop]
      simp [rtI, rt3]
    rw [e3, ← hnews]
    have l1 : (xs.take (i * 3)).length = i * 3 := by rw [List.length_take, hxl]; omega
    have l2 : (rt3 r).length = 3 := rfl
    by_cases k1 : k < i * 3
    · rw [List.getElem?_append_left (by omega), if_neg (by omega), if_neg (by omega), hROW]
      have : ((xs.take (i * 3)).toArray ++ Builtin.zeroCells z3.cells (cap + 1 - i) ++ Builtin.zeroCells z3.cells (G - (cap + 1)))[k]? = (xs.take (i * 3))[k]? := by
        rw [Array.getElem?_append_left (by simp only [Array.size_append, List.size_toArray]; omega), Array.getElem?_append_left (by simp only [List.size_toArray]; omega), List.getElem?_toArray]
      rw [Array.getD_eq_getD_getElem?, this]
      have : k < (xs.take (i * 3)).length := by omega
      rw [List.getElem?_eq_getElem this]
      rfl
    · rw [List.getElem?_append_right (by omega), l1]
      by_cases k2 : k < i * 3 + 3
      · rw [List.getElem?_append_left (by omega), if_neg (by omega), if_pos (by omega)]
        have : k - i * 3 = 0 ∨ k - i * 3 = 1 ∨ k - i * 3 = 2 := by omega
        rcases this with e | e | e <;> rw [e] <;> rfl
      · rw [List.getElem?_append_right (by omega), if_pos (by omega), l2, show k - i * 3 - 3 = k - (i + 1) * 3 from by omega, List.getD_eq_getElem?_getD, List.getElem?_eq_getElem (by omega : k - (i + 1) * 3 < news.length)]
        rfl
  have hob : ∀ W : World, Fr (OneB w.heap.size) W2 W → Fr (fun k => (Value.slice (some ⟨g, 0, none⟩) cap cap).ownBlock = some k) w W := fun W hW =>
    (hf1.trans' (hf2.trans hW) (fun k hk e => by unfold OneB at e; subst e; omega)).mono (fun _ _ h => h.elim)
  have hG63' : G ≤ 9223372036854775807 := by unfold maxLen at hG63; omega
  have HFIN := Lib.hid hfin; clear hfin; have HOB := Lib.hid hob; clear hob; have HR2 := Lib.hid hr2; clear hr2; have HF2 := Lib.hid hf2; clear hf2
  have HSL := Lib.hid hgl
  clear hn hkk hik hold hROW hG hRl hO2 hO h1n hnl hnews hv1 hf1 hr1 hsrc h1x hxl hx hxs hrow hv hi0 hz0 hzs hzb hsz hlen hcm hnc hroom hW1 hG63
  subst hW2
  have hz2 : ¬ ((i : Int) = (cap : Int)) := by omega
  have hin : i ≤ cap := by omega
  have hb1 : (0 : Int) ≤ (i : Int) + 1 := by omega
  have hb2 : ¬ (G = i + 1) := by omega
  have hb4 : ¬ (G = i) := by omega
  have hb5 : (i : Int) ≤ (cap : Int) + 1 := by omega
  have hb6 : (i : Int) + 1 ≤ (cap : Int) + 1 := by omega
  have hb7 : (cap : Int) < (cap : Int) + 1 := by omega
  have hb9 : ¬ (cap = i) := by omega
  have hb10 : (i : Int) ≤ (cap : Int) := by omega
  have hw1 := IntWalk.i64_in ((i : Int) + 1) (by omega)
  have htn : ((i : Int) + 1).toNat = i + 1 := by omega
  go_enter Tryz.func75, Tryz.ntmps75
  go_wp2_with (first
    | (at_builtin; refine Lib.wpList_append_run _ rfl _ _ _ _ rfl _ _ rfl rfl _ _ (hrz _) ?_)
    | (at_builtin; refine wpList_copy_run _ rfl _ _ 29 29 rfl _ _ rfl rfl (hcpA _ (fun _ => rfl) (fun _ => rfl) _ _) ?_))
  have hcpB' := hcpB (W1.setCells w.heap.size (i * 3) (rt3 r)).drew (fun _ => rfl) (fun _ => rfl)
  go_region_law (refine step_copy_run rfl _ _ 29 29 rfl (.slice (some ⟨w.heap.size, (i + 1) * 3, none⟩) (cap - i) (G - (i + 1))) (.slice (some ⟨g, i * 3, none⟩) (cap - i) (cap - i)) (by simp [Act.eval, Act.put]) (by simp [Act.eval, Act.put]) (hcpB' 3 (G - (i + 1)) (cap - i)) ?_)
  go_wp2
  go_ret
  exact ⟨_, rfl, HFIN.out _ (World.rowIs.drew HR2.out), HOB.out _ (Fr.setCells (S := OneB w.heap.size) (show OneB w.heap.size w.heap.size from rfl) _ _ (Fr.refl _ _).drew), fun g' e => by cases e; exact .inr (Nat.le_refl _)⟩

theorem Insert_any (v : Value) (L : List Tb.Rt) (i : Nat) (r : Tb.Rt) (vb : Nat) (w : World) (hl : L.length ≤ 1000) (hi : i ≤ L.length) (h : SlR w 0 v L) (hv : w.rowIs vb 87 3 (rtV r)) (hvg : v.ownBlock ≠ some vb) :
    Calls Tryz.prog 75 #[v, .int .i64 i, .slice (some ⟨vb, 0, none⟩) 1 1] w (InsPost v L i r w) := by
  by_cases e : i = L.length
  · subst e
    exact Insert_end v L r vb w hl h hv
  · rcases h.2 with ⟨_, h0⟩ | ⟨g, cap, cur, rfl, h2⟩
    · omega
    · have hne : vb ≠ g := fun e => hvg (by rw [e]; rfl)
      by_cases hr : L.length < cap
      · exact Insert_shift g cap L i r vb w hl (by omega) hr h hv hne
      · exact Insert_grow g cap L i r vb w hl (by omega) (by omega) h hv
end Go.Proofs.YteedndapbfihaaaGreat
/- Walks: slices.Delete of one route. -/
namespace Go.Proofs.YteedndapbfihaaaGreat
open Go.RowKit Go.Deep

theorem run_clear_routes (w : World) (ty : TypeId) (b o c : Nat) (hc : ∀ j, j < 3 → (w.cell? ⟨b, o + j, none⟩).isSome = true) (hf : ∀ j, j < 3 → w.frozen? ⟨b, o + j, none⟩ = false) :
    (Builtin.clear_ #[29] ty #[.slice (some ⟨b, o, none⟩) 1 c]).run Tryz.prog w = .ok (.tuple #[]) (w.setCells b o [.int .i64 0, .int .i64 0, .int .i64 0]) := by
  have hv : ∀ w, (zeroValue 87).run Tryz.prog w = .ok (.agg #[.int .i64 0, .int .i64 0, .int .i64 0]) w := by intro w; kernel_rfl
  have hst := run_storeCells_cells (P := Tryz.prog) b o [.int .i64 0, .int .i64 0, .int .i64 0] 0 w (by simpa using hc) (by simpa using hf) (by intro v hv'; simp at hv'; subst hv'; rfl)
  simp only [Nat.add_zero] at hst
  have hzc : (Builtin.zeroCells (Value.agg #[.int .i64 0, .int .i64 0, .int .i64 0]).cells 1).toList = [.int .i64 0, .int .i64 0, .int .i64 0] := by kernel_rfl
  have hst' : Sem.run Tryz.prog (storeCells ⟨b, o, none⟩ [.int .i64 0, .int .i64 0, .int .i64 0]) w = .ok () (w.setCells b o [.int .i64 0, .int .i64 0, .int .i64 0]) := hst
  simp [Builtin.clear_, run_underlying Tryz.underlying29, hv, hzc]
  rw [hst']
  rfl
def SlRN (w : World) (base : Nat) (v : Value) (n : Nat) (xs : List Int) : Prop := w.ownsRow base 87 3 v n (xs.map (Value.int .i64))
def DelRPost (g cap n : Nat) (xs : List Int) (i : Nat) (w : World) (e : Ending) (w' : World) : Prop :=
  e = .returned (.slice (some ⟨g, 0, none⟩) (n - 1) cap) ∧ SlRN w' 0 (.slice (some ⟨g, 0, none⟩) (n - 1) cap) (n - 1) (xs.take (i * 3) ++ xs.drop ((i + 1) * 3)) ∧ Fr (OneB g) w w'
set_option maxRecDepth 100000 in
set_option maxHeartbeats 4000000 in
theorem DeleteR_any (g cap n i : Nat) (xs : List Int) (w : World) (hi : i < n) (hn : n ≤ 1000) (h : SlRN w 0 (.slice (some ⟨g, 0, none⟩) n cap) n xs) :
    Calls Tryz.prog 76 #[.slice (some ⟨g, 0, none⟩) n cap, .int .i64 i, .int .i64 (i + 1 : Nat)] w (DelRPost g cap n xs i w) := by
  obtain ⟨hnc, hcm, _, f, hrow, hx⟩ := own_row h
  have hlen := h.1
  have hcm' : cap ≤ 9223372036854775807 := by unfold maxLen at hcm; omega
  clear h hcm
  obtain ⟨m, hm⟩ : ∃ m, m = n - (i + 1) := ⟨_, rfl⟩
  obtain ⟨news, hnews⟩ : ∃ news, news = (xs.map (Value.int .i64)).drop ((i + 1) * 3) := ⟨_, rfl⟩
  have hnl : news.length = m * 3 := by rw [hnews, List.length_drop, hlen]; omega
  have hget : ∀ t, t < m * 3 → news[t]? = some (f ((i + 1) * 3 + t)) := by
    intro t ht
    rw [hnews, List.getElem?_drop, hx _ (by omega)]
  have h1c : ∀ u ∈ news, u.oneCell' = true := by
    intro u hu
    rw [hnews] at hu
    obtain ⟨y, _, rfl⟩ := List.mem_map.1 (List.mem_of_mem_drop hu)
    rfl
  obtain ⟨A, hA, hsrc⟩ : ∃ A : Addr, (if cap = i + 1 then some (⟨g, 0, none⟩ : Addr) else some ⟨g, (i + 1) * 3, none⟩) = some A ∧ Hid (∀ t u, news[t]? = some u → w.drew.cell? (A.add t) = some u) := by
    by_cases hci : cap = i + 1
    · refine ⟨⟨g, 0, none⟩, by simp [hci], fun t u hu => ?_⟩
      have h0 : news.length = 0 := by rw [hnl]; omega
      rw [List.length_eq_zero_iff.1 h0] at hu
      simp at hu
    · refine ⟨⟨g, (i + 1) * 3, none⟩, by simp [hci], fun t u hu => ?_⟩
      have ht : t < m * 3 := by
        have := (List.getElem?_eq_some_iff.1 hu).1
        rwa [hnl] at this
      rw [hget t ht] at hu
      have := World.rowIs.cell (World.rowIs.drew hrow) (i := (i + 1) * 3 + t) (by omega)
      rw [Option.some.inj hu] at this
      have ea : (⟨g, (i + 1) * 3, none⟩ : Addr).add t = ⟨g, (i + 1) * 3 + t, none⟩ := by unfold Addr.add; split <;> simp_all
      rw [ea]; exact this
  have hspare : Hid (∀ j, j < news.length → (w.drew.cell? ⟨g, 0 + i * 3 + j, none⟩).isSome = true ∧ w.drew.frozen? ⟨g, 0 + i * 3 + j, none⟩ = false) := by
    intro j hj
    rw [hnl] at hj
    have := World.rowIs.cell (World.rowIs.drew hrow) (i := 0 + i * 3 + j) (by omega)
    exact ⟨by rw [this]; rfl, World.rowIs.frozen (World.rowIs.drew hrow) _⟩
  obtain ⟨W1, hW1⟩ : ∃ W1, W1 = w.drew.setCells g (0 + i * 3) news := ⟨_, rfl⟩
  have hrow1 := rowIs_setCells news (0 + i * 3) _ _ (World.rowIs.drew hrow)
  rw [← hW1] at hrow1
  have hf1 : Fr (OneB g) w W1 := by rw [hW1]; exact Fr.setCells (S := OneB g) (show OneB g g from rfl) _ _ (Fr.refl _ _).drew
  have hcl : ∀ ty, (Builtin.clear_ #[29] ty #[.slice (some ⟨g, (i + m) * 3, none⟩) (n - (i + m)) (cap - (i + m))]).run Tryz.prog W1 = .ok (.tuple #[]) (W1.setCells g ((i + m) * 3) [.int .i64 0, .int .i64 0, .int .i64 0]) := by
    intro ty
    rw [show n - (i + m) = 1 from by omega]
    exact run_clear_routes W1 ty g _ _ (fun j hj => by rw [World.rowIs.cell hrow1 (i := (i + m) * 3 + j) (by omega)]; rfl) (fun j hj => World.rowIs.frozen hrow1 _)
  have hrow2 := rowIs_setCells [.int .i64 0, .int .i64 0, .int .i64 0] ((i + m) * 3) _ _ hrow1
  have hf2 : Fr (OneB g) w (W1.setCells g ((i + m) * 3) [.int .i64 0, .int .i64 0, .int .i64 0]) := Fr.setCells (S := OneB g) (show OneB g g from rfl) _ _ hf1
  have hfin : SlRN (W1.setCells g ((i + m) * 3) [.int .i64 0, .int .i64 0, .int .i64 0]) 0 (.slice (some ⟨g, 0, none⟩) (n - 1) cap) (n - 1) (xs.take (i * 3) ++ xs.drop ((i + 1) * 3)) := by
    have hxl : xs.length = n * 3 := by simpa using hlen
    refine row_own hrow2 (Nat.zero_le _) (by omega) (by unfold maxLen; omega) (by rw [List.length_map, List.length_append, List.length_take, List.length_drop]; omega) (fun k hk => ?_)
    rw [if_neg (by omega)]
    by_cases hki : k < i * 3
    · rw [if_neg (by omega), List.map_append, List.getElem?_append_left (by simp; omega), List.map_take, List.getElem?_take, if_pos hki, hx k (by omega)]
    · rw [if_pos (by omega), List.map_append, List.getElem?_append_right (by simp; omega), List.map_drop, ← hnews, List.length_map, List.length_take, Nat.min_eq_left (by omega), hget _ (by omega)]
      have := hget (k - (0 + i * 3)) (by omega)
      rw [List.getD_eq_getElem?_getD, this, show (i + 1) * 3 + (k - i * 3) = (i + 1) * 3 + (k - (0 + i * 3)) from by omega]
      rfl
  have hW : Hid (W1 = w.drew.setCells g (0 + i * 3) news) := hW1
  have hic : i ≤ cap := by omega
  have hjc : i + 1 ≤ cap := by omega
  have him : i + m = n - 1 := by omega
  obtain ⟨i0, hi0, hz0, hz1, hz2⟩ := info_parts Tryz.info87
  have HI0 := Lib.hid hi0; clear hi0
  have HNL := Lib.hid hnl; have HSP := hspare
  have H1C := Lib.hid h1c; clear h1c; have HFIN := Lib.hid hfin; clear hfin; have HF2 := Lib.hid hf2; clear hf2; have HIM := Lib.hid him; clear him
  clear hW1 hrow1 hrow2 hget hnews hnl hx hrow hlen hspare hf1
  have hj1 : (i : Int) + 1 ≤ (n : Int) := by omega
  have hj0 : (0 : Int) ≤ (i : Int) + 1 := by omega
  subst hm
  go_enter Tryz.func76, Tryz.ntmps76
  go_wp2_with fail
  go_region_law (refine step_append_room rfl (.tmp 22) (.tmp 25) 29 rfl 87 i0 3 Tryz.underlying29 HI0.out hz1 g 0 i cap (by simp [Act.eval, Act.put]) A (n - (i + 1)) (cap - (i + 1)) news (by simp [Act.eval, Act.put]) HNL.out hsrc.out H1C.out (by omega) HSP.out ?_; rw [← hW.out])
  go_wp2
  go_ret
  exact ⟨by rw [HIM.out]; rfl, HFIN.out, HF2.out⟩

def DelTPost (v : Value) (L : List Tb.Rt) (i : Nat) (w : World) (e : Ending) (w' : World) : Prop :=
  ∃ v', e = .returned v' ∧ SlR w' 0 v' (L.take i ++ L.drop (i + 1)) ∧ Fr (fun k => v.ownBlock = some k) w w' ∧ v'.ownBlock = v.ownBlock
theorem DeleteT (v : Value) (L : List Tb.Rt) (i : Nat) (w : World) (hl : L.length ≤ 1000) (hi : i < L.length) (h : SlR w 0 v L) :
    Calls Tryz.prog 76 #[v, .int .i64 i, .int .i64 (i + 1 : Nat)] w (DelTPost v L i w) := by
  rcases h.2 with ⟨_, h0⟩ | ⟨g, cap, cur, rfl, h2⟩
  · omega
  · refine (DeleteR_any g cap L.length i (rtI L) w hi hl h).mono ?_
    rintro e w' ⟨rfl, hs, hf⟩
    refine ⟨_, rfl, ?_, hf.mono (fun k _ e => by unfold OneB at e; subst e; rfl), rfl⟩
    unfold SlR
    have hll : (L.take i ++ L.drop (i + 1)).length = L.length - 1 := by rw [List.length_append, List.length_take, List.length_drop]; omega
    rw [hll, rtI_app, ← rtI_take, ← rtI_drop]
    exact hs
end Go.Proofs.YteedndapbfihaaaGreat
/- The document's SetOf, element by element, comes to the same as the plain words. -/
namespace Go.Proofs.YteedndapbfihaaaGreat.Tb

def stS (p : Pf) (hop : Int) (s : List Rt × Bool) (r : Rt) : List Rt × Bool :=
  if r.p = p then s else if s.2 = false ∧ less p r.p then (s.1 ++ [⟨p, hop⟩] ++ [r], true) else (s.1 ++ [r], s.2)
def soF (L : List Rt) (p : Pf) (hop : Int) : List Rt × Bool := L.foldl (stS p hop) ([], hop == -2)
def soEnd (s : List Rt × Bool) (p : Pf) (hop : Int) : List Rt := if s.2 then s.1 else s.1 ++ [⟨p, hop⟩]
theorem soF_app (L : List Rt) (r : Rt) (p : Pf) (hop : Int) : soF (L ++ [r]) p hop = stS p hop (soF L p hop) r := by unfold soF; rw [List.foldl_append]; rfl
theorem soF_len (p : Pf) (hop : Int) : ∀ (n : Nat) (L : List Rt), L.length = n → (soF L p hop).1.length ≤ 2 * n
  | 0, L, h => by rw [List.length_eq_zero_iff.1 h]; simp [soF]
  | n + 1, L, h => by
    obtain ⟨T, r, rfl⟩ : ∃ T r, L = T ++ [r] := ⟨L.dropLast, L.getLast (by intro e; rw [e] at h; cases h), (List.dropLast_concat_getLast _).symm⟩
    have := soF_len p hop n T (by simpa using h)
    rw [soF_app]
    unfold stS
    split
    · omega
    · split <;> simp <;> omega
theorem lo_app (A B : List Rt) (p : Pf) : lo (A ++ B) p = lo A p ++ lo B p := by unfold lo; rw [List.filter_append]
theorem hi_app (A B : List Rt) (p : Pf) : hi (A ++ B) p = hi A p ++ hi B p := by unfold hi; rw [List.filter_append]
theorem so_inv {p : Pf} (hp : Tb.ok p) (hop : Int) : ∀ (n : Nat) (L : List Rt), L.length = n → Wf L → soF L p hop = (lo L p ++ (if hi L p = [] then [] else mid p hop) ++ hi L p, decide (hop = -2 ∨ hi L p ≠ []))
  | 0, L, h, _ => by
    rw [List.length_eq_zero_iff.1 h]
    show (([] : List Rt), hop == -2) = _
    simp only [lo, hi, List.filter_nil, if_true, List.append_nil, ne_eq, not_true, or_false]
    rfl
  | n + 1, L, h, hw => by
    obtain ⟨T, r, rfl⟩ : ∃ T r, L = T ++ [r] := ⟨L.dropLast, L.getLast (by intro e; rw [e] at h; cases h), (List.dropLast_concat_getLast _).symm⟩
    obtain ⟨h1, h2⟩ := wf_app hw
    have hr := (hw.1 r (List.mem_append_right _ (List.mem_singleton.2 rfl))).1
    have ih := so_inv hp hop n T (by simpa using h) h1
    rw [soF_app, ih, lo_app, hi_app]
    unfold stS
    by_cases e : r.p = p
    · have e1 : lo [r] p = [] := by unfold lo; rw [List.filter_cons_of_neg (by simp [e, less_irrefl])]; rfl
      have e2 : hi [r] p = [] := by unfold hi; rw [List.filter_cons_of_neg (by simp [e, less_irrefl])]; rfl
      rw [if_pos e, e1, e2, List.append_nil, List.append_nil]
    · rw [if_neg e]
      by_cases l1 : less p r.p
      · have e1 : lo [r] p = [] := by unfold lo; rw [List.filter_cons_of_neg (by simpa using less_asymm l1)]; rfl
        have e2 : hi [r] p = [r] := by unfold hi; rw [List.filter_cons_of_pos (by simpa using l1)]; rfl
        rw [e1, e2, List.append_nil]
        by_cases hh : hi T p = []
        · by_cases h0 : hop = -2
          · simp [hh, h0, mid]
          · simp [hh, h0, mid, l1]
        · simp [hh]
      · have l2 : less r.p p := by
          by_cases k : less r.p p
          · exact k
          · exact absurd (less_total hr hp k l1) e
        have e1 : lo [r] p = [r] := by unfold lo; rw [List.filter_cons_of_pos (by simpa using l2)]; rfl
        have e2 : hi [r] p = [] := by unfold hi; rw [List.filter_cons_of_neg (by simpa using l1)]; rfl
        have e3 : hi T p = [] := by
          unfold hi
          rw [List.filter_eq_nil_iff]
          intro s hs
          simpa using less_asymm (less_trans (h2 s hs) l2)
        rw [e1, e2, e3]
        simp [l1]
theorem so_end {L : List Rt} (h : Wf L) {p : Pf} (hp : Tb.ok p) (hop : Int) : soEnd (soF L p hop) p hop = setOk L p hop := by
  rw [so_inv hp hop L.length L rfl h]
  unfold soEnd setOk
  by_cases h0 : hop = -2
  · simp [h0, mid]
  · by_cases hh : hi L p = []
    · simp [hh, h0, mid]
    · simp [hh]
end Go.Proofs.YteedndapbfihaaaGreat.Tb
/- Walks: SetOf of the document's own answer. -/
namespace Go.Proofs.YteedndapbfihaaaGreat
open Go.RowKit Go.Deep

def SoNo (a : Option Addr) (c : Nat) (L : List Tb.Rt) (code : Int) (w : World) (e : Ending) (w' : World) : Prop := e = .returned (.tuple #[.slice a L.length c, .int .i64 code]) ∧ Fr NoB w w'
set_option maxRecDepth 100000 in
set_option maxHeartbeats 4000000 in
theorem SetOf_no (a : Option Addr) (c : Nat) (L : List Tb.Rt) (l b hop : Int) (w : World) (hl : L.length ≤ 1000) (ha : Rs w a L) (hc : Tb.setC L ⟨l, b⟩ hop ≠ 0) :
    Calls Tryz.prog 73 #[.slice a L.length c, .agg #[.int .i64 l, .int .i64 b], .int .i64 hop] w (SoNo a c L (Tb.setC L ⟨l, b⟩ hop) w) := by
  have HA := Lib.hid ha; clear ha
  by_cases hok : Tb.ok ⟨l, b⟩
  · have hd := decide_eq_true hok
    by_cases h2 : hop = -2
    · subst h2
      by_cases hg : Tb.get L ⟨l, b⟩ = -2
      · have e : Tb.setC L ⟨l, b⟩ (-2) = 6 := by unfold Tb.setC; rw [if_neg (by simp [hok]), if_pos ⟨hg, rfl⟩]
        rw [e]
        have HD := Lib.hid hd; clear hd; have HOK := Lib.hid hok; clear hok; have HG := Lib.hid hg; clear hg
        clear e hc
        go_enter Tryz.func73, Tryz.ntmps73
        go_wp2_with fail
        refine (IsPrefix_any l b _).mono ?_
        rw [HD.out]
        rintro e w1 ⟨rfl, hf⟩
        have c0 := cell_fr' hf (box0 w (.int .i64 l) (.int .i64 b) 53) (fun h => h)
        have c1 := cell_fr' hf (box1 w (.int .i64 l) (.int .i64 b) 53) (fun h => h)
        have HF1 := Lib.hid (((Fr.refl NoB w).alloc _).trans hf)
        clear hf
        go_wp2_with fail
        refine (GetOf_any a c L l b _ hl (HA.out.keep0 HF1.out)).mono ?_
        rw [HG.out]
        rintro e w3 ⟨rfl, hf⟩
        have c0 := cell_fr' hf c0 (fun h => h)
        have c1 := cell_fr' hf c1 (fun h => h)
        have HF3 := Lib.hid (HF1.out.trans hf)
        clear hf HF1
        go_wp2
        refine bodyPost_ret (v := .tuple #[.slice a L.length c, .int .i64 6]) ?_ rfl (show SoNo a c L 6 w (.returned (.tuple #[.slice a L.length c, .int .i64 6])) _ from ⟨rfl, HF3.out⟩)
        simp [results, Tryz.results73, go_sem]
      · exact absurd (by unfold Tb.setC; rw [if_neg (by simp [hok]), if_neg (fun h => hg h.1), if_neg (fun h => hg h.1)]) hc
    · have hb : (hop == -2) = false := by simpa using h2
      have hb2 : (hop != -2) = true := by simpa using h2
      by_cases hho : Tb.hopOK hop
      · have hd2 := decide_eq_true hho
        by_cases hg : Tb.get L ⟨l, b⟩ = -2
        · by_cases h40 : 40 ≤ L.length
          · have e : Tb.setC L ⟨l, b⟩ hop = 9 := by unfold Tb.setC; rw [if_neg (by simp [hok, hho]), if_neg (fun h => h2 h.2), if_pos ⟨hg, h40⟩]
            have hb40 : (40 : Int) ≤ (L.length : Int) := by omega
            rw [e]
            have HD := Lib.hid hd; clear hd; have HOK := Lib.hid hok; clear hok; have HG := Lib.hid hg; clear hg; have HD2 := Lib.hid hd2; clear hd2; have HHO := Lib.hid hho; clear hho
            clear e hc h2
            go_enter Tryz.func73, Tryz.ntmps73
            go_wp2_with fail
            refine (IsPrefix_any l b _).mono ?_
            rw [HD.out]
            rintro e w1 ⟨rfl, hf⟩
            have c0 := cell_fr' hf (box0 w (.int .i64 l) (.int .i64 b) 53) (fun h => h)
            have c1 := cell_fr' hf (box1 w (.int .i64 l) (.int .i64 b) 53) (fun h => h)
            have HF1 := Lib.hid (((Fr.refl NoB w).alloc _).trans hf)
            clear hf
            go_wp2_with fail
            refine (IsHop_any hop _).mono ?_
            rw [HD2.out]
            rintro e w2 ⟨rfl, rfl⟩
            go_wp2_with fail
            refine (GetOf_any a c L l b _ hl (HA.out.keep0 HF1.out)).mono ?_
            rw [HG.out]
            rintro e w3 ⟨rfl, hf⟩
            have c0 := cell_fr' hf c0 (fun h => h)
            have c1 := cell_fr' hf c1 (fun h => h)
            have HF3 := Lib.hid (HF1.out.trans hf)
            clear hf HF1
            go_wp2
            refine bodyPost_ret (v := .tuple #[.slice a L.length c, .int .i64 9]) ?_ rfl (show SoNo a c L 9 w (.returned (.tuple #[.slice a L.length c, .int .i64 9])) _ from ⟨rfl, HF3.out⟩)
            simp [results, Tryz.results73, go_sem]
          · exact absurd (by unfold Tb.setC; rw [if_neg (by simp [hok, hho]), if_neg (fun h => h2 h.2), if_neg (fun h => h40 h.2)]) hc
        · exact absurd (by unfold Tb.setC; rw [if_neg (by simp [hok, hho]), if_neg (fun h => hg h.1), if_neg (fun h => hg h.1)]) hc
      · have hd2 := decide_eq_false hho
        have e : Tb.setC L ⟨l, b⟩ hop = 1 := by unfold Tb.setC; rw [if_pos (.inr ⟨h2, hho⟩)]
        rw [e]
        have HD := Lib.hid hd; clear hd; have HOK := Lib.hid hok; clear hok; have HD2 := Lib.hid hd2; clear hd2; have HHO := Lib.hid hho; clear hho
        clear e hc h2
        go_enter Tryz.func73, Tryz.ntmps73
        go_wp2_with fail
        refine (IsPrefix_any l b _).mono ?_
        rw [HD.out]
        rintro e w1 ⟨rfl, hf⟩
        have c0 := cell_fr' hf (box0 w (.int .i64 l) (.int .i64 b) 53) (fun h => h)
        have c1 := cell_fr' hf (box1 w (.int .i64 l) (.int .i64 b) 53) (fun h => h)
        have HF1 := Lib.hid (((Fr.refl NoB w).alloc _).trans hf)
        clear hf
        go_wp2_with fail
        refine (IsHop_any hop _).mono ?_
        rw [HD2.out]
        rintro e w2 ⟨rfl, rfl⟩
        go_wp2
        refine bodyPost_ret (v := .tuple #[.slice a L.length c, .int .i64 1]) ?_ rfl (show SoNo a c L 1 w (.returned (.tuple #[.slice a L.length c, .int .i64 1])) _ from ⟨rfl, HF1.out⟩)
        simp [results, Tryz.results73, go_sem]
  · have hd := decide_eq_false hok
    have e : Tb.setC L ⟨l, b⟩ hop = 1 := by unfold Tb.setC; rw [if_pos (.inl hok)]
    rw [e]
    have HD := Lib.hid hd; clear hd; have HOK := Lib.hid hok; clear hok
    clear e hc
    go_enter Tryz.func73, Tryz.ntmps73
    go_wp2_with fail
    refine (IsPrefix_any l b _).mono ?_
    rw [HD.out]
    rintro e w1 ⟨rfl, hf⟩
    have c0 := cell_fr' hf (box0 w (.int .i64 l) (.int .i64 b) 53) (fun h => h)
    have c1 := cell_fr' hf (box1 w (.int .i64 l) (.int .i64 b) 53) (fun h => h)
    have HF1 := Lib.hid (((Fr.refl NoB w).alloc _).trans hf)
    clear hf
    go_wp2
    refine bodyPost_ret (v := .tuple #[.slice a L.length c, .int .i64 1]) ?_ rfl (show SoNo a c L 1 w (.returned (.tuple #[.slice a L.length c, .int .i64 1])) _ from ⟨rfl, HF1.out⟩)
    simp [results, Tryz.results73, go_sem]
end Go.Proofs.YteedndapbfihaaaGreat
