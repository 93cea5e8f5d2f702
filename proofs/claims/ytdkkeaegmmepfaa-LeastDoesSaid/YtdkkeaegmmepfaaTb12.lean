/- Walks: slices.Insert of one route ahead of another one, where there is no room: a new block. -/
import Derived.Test.YtdkkeaegmmepfaaTb11
namespace Go.Proofs.Ytdkkeaegmmepfaa
open Go.RowKit Go.Deep

def z3 : Value := .agg #[.int .i64 0, .int .i64 0, .int .i64 0]
theorem z3_cells (k : Nat) : (Builtin.zeroCells z3.cells k).size = k * 3 := by simp [Builtin.zeroCells, z3, Value.cells]
set_option maxRecDepth 100000 in
set_option maxHeartbeats 4000000 in
theorem Insert_grow (g cap : Nat) (L : List Tb.Rt) (i : Nat) (r : Tb.Rt) (vb : Nat) (w : World) (hl : L.length ≤ 1000) (hi : i < L.length) (hroom : cap ≤ L.length) (h : SlR w 0 (.slice (some ⟨g, 0, none⟩) L.length cap) L)
    (hv : w.rowIs vb 33 3 (rtV r)) :
    Calls Try.prog 39 #[.slice (some ⟨g, 0, none⟩) L.length cap, .int .i64 i, .slice (some ⟨vb, 0, none⟩) 1 1] w (InsPost (.slice (some ⟨g, 0, none⟩) L.length cap) L i r w) := by
  obtain ⟨hnc, hcm, _, f, hrow, hx⟩ := own_row h
  have hlen := rtI_len L
  have hcm' : cap ≤ 9223372036854775807 := by unfold maxLen at hcm; omega
  have hgl := World.rowIs.lt hrow
  have hvl := World.rowIs.lt hv
  clear h
  generalize hn : L.length = n at *
  have hcn : cap = n := by omega
  subst hcn
  obtain ⟨xs, hxs⟩ : ∃ xs, xs = (rtI L).map (Value.int .i64) := ⟨_, rfl⟩
  have hxl : xs.length = cap * 3 := by rw [hxs, List.length_map, hlen]
  rw [← hxs] at hx
  have h1x : ∀ u ∈ xs, u.oneCell' = true := by rw [hxs]; exact ints_one _
  have hsrc : ∀ j v, xs[j]? = some v → w.cell? ⟨g, j, none⟩ = some v := fun j v hj => by
    have hjl : j < cap * 3 := by
      have := (List.getElem?_eq_some_iff.1 hj).1
      omega
    rw [hx j hjl] at hj
    cases hj
    exact World.rowIs.cell hrow hjl
  have hsz : (Try.prog.info? 33).map (·.size) = some 3 := by
    obtain ⟨i0, hi0, hz0, hz1, hz2⟩ := info_parts Try.info33
    rw [hi0]; simp [hz1]
  obtain ⟨i0, hi0, hz0, hzs, hzb⟩ := info_parts Try.info33
  have hold : (Builtin.firstCells i0.size i (.slice (some ⟨g, 0, none⟩) i cap)).run Try.prog w.drew = .ok (xs.take (i * 3)).toArray w.drew := by
    rw [hzs]
    exact run_firstCells_some w.drew 3 i ⟨g, 0, none⟩ i cap (xs.take (i * 3)) (by rw [List.length_take]; omega) (fun j v hj => by
      rw [add_base]
      rw [List.getElem?_take] at hj
      split at hj
      · exact hsrc j v hj
      · cases hj)
  have hkk : (cap : Int) + 1 - (i : Int) = ((cap + 1 - i : Nat) : Int) := by omega
  have hik : i + (cap + 1 - i) = cap + 1 := by omega
  obtain ⟨G, hG⟩ : ∃ G, G = grownCap w (cap + 1) cap 33 := ⟨_, rfl⟩
  have hGn : cap + 1 ≤ G := by rw [hG]; exact grownCap_ge w _ _ _
  have hG63 : G ≤ maxLen := by
    have := grownCap_le_maxLen w (cap + 1) cap 33 (by unfold maxLen; omega)
    rw [← hG] at this
    exact this
  obtain ⟨ROW, hROW⟩ : ∃ ROW : Array Value, ROW = (xs.take (i * 3)).toArray ++ Builtin.zeroCells z3.cells (cap + 1 - i) ++ Builtin.zeroCells z3.cells (G - (cap + 1)) := ⟨_, rfl⟩
  have hrz : ∀ ty, (Builtin.append_ #[22, 3] ty #[.slice (some ⟨g, 0, none⟩) i cap, .int .i64 ((cap : Int) + 1 - (i : Int))]).run Try.prog w =
      .ok (.slice (some ⟨w.heap.size, 0, none⟩) (cap + 1) G) (w.drew.alloc (.cells ROW 33)) := fun ty => by
    have h := Lib.run_append_grow_zeros w 22 3 ty 33 i0 _ .i64 .i64 Try.underlying22 Try.underlying3 hi0 hz0 (some ⟨g, 0, none⟩) i cap (xs.take (i * 3)) hold (cap + 1 - i) (by omega) (by omega) (by omega) (by omega) (by rw [hzb]; omega) (by rw [hzb, hik]; exact growslice_fits (by omega) (by omega))
    rw [hik, ← hG] at h
    rw [hkk, hROW]
    exact h
  have hRl : ROW.size = G * 3 := by
    rw [hROW]
    simp only [Array.size_append, List.size_toArray, z3_cells, List.length_take]
    omega
  obtain ⟨W1, hW1⟩ : ∃ W1, W1 = w.drew.alloc (.cells ROW 33) := ⟨_, rfl⟩
  have hr1 : W1.rowIs w.heap.size 33 (G * 3) (fun k => ROW.getD k (.int .i64 0)) := by
    rw [hW1, ← hRl]
    exact World.rowIs_alloc w.drew ROW 33 _ (fun k hk => by simp [Array.getD, hk])
  rw [← hW1] at hrz
  have hf1 : Fr NoB w W1 := by rw [hW1]; exact ((Fr.refl _ _).drew).alloc _
  have hv1 : W1.rowIs vb 33 3 (rtV r) := hf1.row hv (fun h => h)
  have hO : ∀ j v, xs[j]? = some v → W1.cell? ⟨g, j, none⟩ = some v := fun j v hj => cell_fr' hf1 (hsrc j v hj) (fun h => h)
  have hcpA : ∀ (W : World), (∀ x, W.cell? x = W1.cell? x) → (∀ x, W.frozen? x = W1.frozen? x) → ∀ ty dc, (Builtin.copy_ #[22, 22] ty #[.slice (some ⟨w.heap.size, i * 3, none⟩) (cap + 1 - i) dc, .slice (some ⟨vb, 0, none⟩) 1 1]).run Try.prog W = .ok (goInt (1 : Nat)) (W.setCells w.heap.size (i * 3) (rt3 r)) := fun W hWc hWf ty dc =>
    run_copy_rows W _ _ ty 33 w.heap.size (i * 3) (cap + 1 - i) dc ⟨vb, 0, none⟩ 1 1 (rt3 r) 3 1 Try.underlying22 hsz (by simp only [Nat.min_def]; split <;> omega) rfl
      (fun j v hj => by rw [hWc]; exact rt3_at hv1 j v hj)
      (fun j hj => by rw [hWc, World.rowIs.cell hr1 (i := i * 3 + j) (by simp [rt3] at hj; omega)]; rfl) (fun j hj => by rw [hWf]; exact World.rowIs.frozen hr1 _) (rt3_one r)
  obtain ⟨W2, hW2⟩ : ∃ W2, W2 = W1.setCells w.heap.size (i * 3) (rt3 r) := ⟨_, rfl⟩
  have hr2 := rowIs_setCells (rt3 r) (i * 3) _ _ hr1
  have hf2 : Fr (OneB w.heap.size) W1 W2 := by rw [hW2]; exact Fr.setCells (S := OneB w.heap.size) (show OneB w.heap.size w.heap.size from rfl) _ _ (Fr.refl _ _)
  rw [← hW2] at hr2
  have hO2 : ∀ j v, xs[j]? = some v → W2.cell? ⟨g, j, none⟩ = some v := fun j v hj => cell_fr' hf2 (hO j v hj) (fun e : g = w.heap.size => by omega)
  obtain ⟨news, hnews⟩ : ∃ news, news = xs.drop (i * 3) := ⟨_, rfl⟩
  have hnl : news.length = (cap - i) * 3 := by rw [hnews, List.length_drop, hxl]; omega
  have h1n : ∀ u ∈ news, u.oneCell' = true := fun u hu => h1x u (by rw [hnews] at hu; exact List.mem_of_mem_drop hu)
  have hcpB : ∀ (W : World), (∀ x, W.cell? x = W2.cell? x) → (∀ x, W.frozen? x = W2.frozen? x) → ∀ ty dc sc, (Builtin.copy_ #[22, 22] ty #[.slice (some ⟨w.heap.size, (i + 1) * 3, none⟩) (cap - i) dc, .slice (some ⟨g, i * 3, none⟩) (cap - i) sc]).run Try.prog W = .ok (goInt (cap - i : Nat)) (W.setCells w.heap.size ((i + 1) * 3) news) := fun W hWc hWf ty dc sc =>
    run_copy_rows W _ _ ty 33 w.heap.size ((i + 1) * 3) (cap - i) dc ⟨g, i * 3, none⟩ (cap - i) sc news 3 (cap - i) Try.underlying22 hsz (by simp only [Nat.min_def]; split <;> omega) hnl
      (fun j v hj => by
        rw [Addr.add_lit, hWc]
        exact hO2 _ v (by rwa [hnews, List.getElem?_drop] at hj))
      (fun j hj => by rw [hWc, World.rowIs.cell hr2 (i := (i + 1) * 3 + j) (by omega)]; rfl) (fun j hj => by rw [hWf]; exact World.rowIs.frozen hr2 _) h1n
  have hfin : ∀ W : World, W.rowIs w.heap.size 33 (G * 3) (fun k => if i * 3 ≤ k ∧ k < i * 3 + (rt3 r).length then (rt3 r).getD (k - i * 3) (ROW.getD k (.int .i64 0)) else ROW.getD k (.int .i64 0)) → SlR (W.setCells w.heap.size ((i + 1) * 3) news) 0 (.slice (some ⟨w.heap.size, 0, none⟩) (cap + 1) G) (L.take i ++ r :: L.drop i) := by
    intro W hW
    have hr3 := rowIs_setCells news ((i + 1) * 3) _ _ hW
    have hll : (L.take i ++ r :: L.drop i).length = cap + 1 := by rw [List.length_append, List.length_cons, List.length_take, List.length_drop]; omega
    unfold SlR
    rw [hll]
    refine row_own hr3 (Nat.zero_le _) (by omega) hG63 (by rw [List.length_map, rtI_len, hll]) (fun k hk => ?_)
    have e3 : (rtI (L.take i ++ r :: L.drop i)).map (Value.int .i64) = xs.take (i * 3) ++ (rt3 r ++ xs.drop (i * 3)) := by
      rw [rtI_app, ← rtI_take, hxs, ← List.map_take, ← List.map_drop, rtI_drop]
      simp [rtI, rt3]
    rw [e3, ← hnews]
    have l1 : (xs.take (i * 3)).length = i * 3 := by rw [List.length_take, hxl]; omega
    have l2 : (rt3 r).length = 3 := rfl
    by_cases k1 : k < i * 3
    · rw [List.getElem?_append_left (by omega), if_neg (by omega), if_neg (by omega), hROW]
      have : ((xs.take (i * 3)).toArray ++ Builtin.zeroCells z3.cells (cap + 1 - i) ++ Builtin.zeroCells z3.cells (G - (cap + 1)))[k]? = (xs.take (i * 3))[k]? := by
        rw [Array.getElem?_append_left (by simp only [Array.size_append, List.size_toArray]; omega), Array.getElem?_append_left (by simp only [List.size_toArray]; omega), List.getElem?_toArray]
      rw [Array.getD_eq_getD_getElem?, this]
      have : k < (xs.take (i * 3)).length := by omega
      rw [List.getElem?_eq_getElem this]
      rfl
    · rw [List.getElem?_append_right (by omega), l1]
      by_cases k2 : k < i * 3 + 3
      · rw [List.getElem?_append_left (by omega), if_neg (by omega), if_pos (by omega)]
        have : k - i * 3 = 0 ∨ k - i * 3 = 1 ∨ k - i * 3 = 2 := by omega
        rcases this with e | e | e <;> rw [e] <;> rfl
      · rw [List.getElem?_append_right (by omega), if_pos (by omega), l2, show k - i * 3 - 3 = k - (i + 1) * 3 from by omega, List.getD_eq_getElem?_getD, List.getElem?_eq_getElem (by omega : k - (i + 1) * 3 < news.length)]
        rfl
  have hob : ∀ W : World, Fr (OneB w.heap.size) W2 W → Fr (fun k => (Value.slice (some ⟨g, 0, none⟩) cap cap).ownBlock = some k) w W := fun W hW =>
    (hf1.trans' (hf2.trans hW) (fun k hk e => by unfold OneB at e; subst e; omega)).mono (fun _ _ h => h.elim)
  have hG63' : G ≤ 9223372036854775807 := by unfold maxLen at hG63; omega
  have HFIN := Lib.hid hfin; clear hfin; have HOB := Lib.hid hob; clear hob; have HR2 := Lib.hid hr2; clear hr2; have HF2 := Lib.hid hf2; clear hf2
  have HSL := Lib.hid hgl
  clear hn hkk hik hold hROW hG hRl hO2 hO h1n hnl hnews hv1 hf1 hr1 hsrc h1x hxl hx hxs hrow hv hi0 hz0 hzs hzb hsz hlen hcm hnc hroom hW1 hG63
  subst hW2
  have hz2 : ¬ ((i : Int) = (cap : Int)) := by omega
  have hin : i ≤ cap := by omega
  have hb1 : (0 : Int) ≤ (i : Int) + 1 := by omega
  have hb2 : ¬ (G = i + 1) := by omega
  have hb4 : ¬ (G = i) := by omega
  have hb5 : (i : Int) ≤ (cap : Int) + 1 := by omega
  have hb6 : (i : Int) + 1 ≤ (cap : Int) + 1 := by omega
  have hb7 : (cap : Int) < (cap : Int) + 1 := by omega
  have hb9 : ¬ (cap = i) := by omega
  have hb10 : (i : Int) ≤ (cap : Int) := by omega
  have hw1 := IntWalk.i64_in ((i : Int) + 1) (by omega)
  have htn : ((i : Int) + 1).toNat = i + 1 := by omega
  go_enter Try.func39, Try.ntmps39
  go_wp2_with (first
    | (at_builtin; refine Lib.wpList_append_run _ rfl _ _ _ _ rfl _ _ rfl rfl _ _ (hrz _) ?_)
    | (at_builtin; refine wpList_copy_run _ rfl _ _ 22 22 rfl _ _ rfl rfl (hcpA _ (fun _ => rfl) (fun _ => rfl) _ _) ?_))
  have hcpB' := hcpB (W1.setCells w.heap.size (i * 3) (rt3 r)).drew (fun _ => rfl) (fun _ => rfl)
  go_region_law (refine step_copy_run rfl _ _ 22 22 rfl (.slice (some ⟨w.heap.size, (i + 1) * 3, none⟩) (cap - i) (G - (i + 1))) (.slice (some ⟨g, i * 3, none⟩) (cap - i) (cap - i)) (by simp [Act.eval, Act.put]) (by simp [Act.eval, Act.put]) (hcpB' 3 (G - (i + 1)) (cap - i)) ?_)
  go_wp2
  go_ret
  exact ⟨_, rfl, HFIN.out _ (World.rowIs.drew HR2.out), HOB.out _ (Fr.setCells (S := OneB w.heap.size) (show OneB w.heap.size w.heap.size from rfl) _ _ (Fr.refl _ _).drew), fun g' e => by cases e; exact .inr (Nat.le_refl _)⟩

theorem Insert_any (v : Value) (L : List Tb.Rt) (i : Nat) (r : Tb.Rt) (vb : Nat) (w : World) (hl : L.length ≤ 1000) (hi : i ≤ L.length) (h : SlR w 0 v L) (hv : w.rowIs vb 33 3 (rtV r)) (hvg : v.ownBlock ≠ some vb) :
    Calls Try.prog 39 #[v, .int .i64 i, .slice (some ⟨vb, 0, none⟩) 1 1] w (InsPost v L i r w) := by
  by_cases e : i = L.length
  · subst e
    exact Insert_end v L r vb w hl h hv
  · rcases h.2 with ⟨_, h0⟩ | ⟨g, cap, cur, rfl, h2⟩
    · omega
    · have hne : vb ≠ g := fun e => hvg (by rw [e]; rfl)
      by_cases hr : L.length < cap
      · exact Insert_shift g cap L i r vb w hl (by omega) hr h hv hne
      · exact Insert_grow g cap L i r vb w hl (by omega) (by omega) h hv
end Go.Proofs.Ytdkkeaegmmepfaa
