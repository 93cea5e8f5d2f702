/- Walks: slices.Insert of one route ahead of another one, where there is room. -/
import Derived.Test.YtdkkeaegmmepfaaTb10
namespace Go.Proofs.Ytdkkeaegmmepfaa
open Go.RowKit Go.Deep

theorem rt_mem_one (xs : List Int) (k : Nat) : ∀ u ∈ (xs.map (Value.int .i64)).drop k, u.oneCell' = true := by
  intro u hu
  obtain ⟨y, _, rfl⟩ := List.mem_map.1 (List.mem_of_mem_drop hu)
  rfl
set_option maxRecDepth 100000 in
set_option maxHeartbeats 4000000 in
theorem Insert_shift (g cap : Nat) (L : List Tb.Rt) (i : Nat) (r : Tb.Rt) (vb : Nat) (w : World) (hl : L.length ≤ 1000) (hi : i < L.length) (hroom : L.length < cap) (h : SlR w 0 (.slice (some ⟨g, 0, none⟩) L.length cap) L)
    (hv : w.rowIs vb 33 3 (rtV r)) (hvg : vb ≠ g) :
    Calls Try.prog 39 #[.slice (some ⟨g, 0, none⟩) L.length cap, .int .i64 i, .slice (some ⟨vb, 0, none⟩) 1 1] w (InsPost (.slice (some ⟨g, 0, none⟩) L.length cap) L i r w) := by
  obtain ⟨hnc, hcm, _, f, hrow, hx⟩ := own_row h
  have hlen := rtI_len L
  have hcm' : cap ≤ 9223372036854775807 := by unfold maxLen at hcm; omega
  have hgl := World.rowIs.lt hrow
  clear h
  generalize hn : L.length = n at *
  obtain ⟨news, hnews⟩ : ∃ news, news = ((rtI L).map (Value.int .i64)).drop (i * 3) := ⟨_, rfl⟩
  have hnl : news.length = (n - i) * 3 := by rw [hnews, List.length_drop, List.length_map, hlen]; omega
  have hget : ∀ t, t < (n - i) * 3 → news[t]? = some (f (i * 3 + t)) := by
    intro t ht
    rw [hnews, List.getElem?_drop, hx _ (by omega)]
  have h1c : ∀ u ∈ news, u.oneCell' = true := by rw [hnews]; exact rt_mem_one _ _
  have hsz : (Try.prog.info? 33).map (·.size) = some 3 := by
    obtain ⟨i0, hi0, hz0, hz1, hz2⟩ := info_parts Try.info33
    rw [hi0]; simp [hz1]
  have hsof : ∀ w, (Go.sizeOf 33).run Try.prog w = .ok 3 w := by
    obtain ⟨i0, hi0, hz0, hz1, hz2⟩ := info_parts Try.info33
    intro w
    simp [Go.sizeOf, typeInfo, hi0, hz1]
  have hov : ∀ lb cb, (callFunc 61 #[.slice (some ⟨vb, 0, none⟩) 1 1, .slice (some ⟨g, (i + 1) * 3, none⟩) lb cb]).run Try.prog w = .ok (.value (.bool false)) w := fun lb cb => by
    rw [run_callFunc_extern Try.func61 (by kernel_rfl) (by kernel_rfl) (by kernel_rfl) (e := Extern.SlicesOverlaps.overlaps #[22, 22] #[4]) (by kernel_rfl),
      Lib.run_overlaps_apart w 22 4 33 Try.underlying22 3 hsof ⟨vb, 0, none⟩ ⟨g, (i + 1) * 3, none⟩ 1 1 lb cb hvg 33 33 3 (cap * 3) (row_shape hv) (row_shape hrow) (by omega) (World.rowIs.frozen hv 0) (World.rowIs.frozen hv 3)]
    rfl
  have hrd := World.rowIs.drew hrow
  have hcp1 : ∀ ty dc sc, (Builtin.copy_ #[22, 22] ty #[.slice (some ⟨g, (i + 1) * 3, none⟩) (n - i) dc, .slice (some ⟨g, i * 3, none⟩) (n + 1 - i) sc]).run Try.prog w.drew = .ok (goInt (n - i : Nat)) (w.drew.setCells g ((i + 1) * 3) news) := fun ty dc sc =>
    run_copy_rows w.drew _ _ ty 33 g ((i + 1) * 3) (n - i) dc ⟨g, i * 3, none⟩ (n + 1 - i) sc news 3 (n - i) Try.underlying22 hsz (by simp only [Nat.min_def]; split <;> omega) hnl
      (fun j v hj => by
        have hjl : j < (n - i) * 3 := by
          have := (List.getElem?_eq_some_iff.1 hj).1
          omega
        rw [hget j hjl] at hj
        cases hj
        have := World.rowIs.cell hrd (i := i * 3 + j) (by omega)
        rw [Addr.add_lit]
        exact this)
      (fun j hj => by rw [World.rowIs.cell hrd (i := (i + 1) * 3 + j) (by omega)]; rfl) (fun j hj => World.rowIs.frozen hrd _) h1c
  obtain ⟨W1, hW1⟩ : ∃ W1, W1 = w.drew.setCells g ((i + 1) * 3) news := ⟨_, rfl⟩
  have hr1 := rowIs_setCells news ((i + 1) * 3) _ _ hrd
  rw [← hW1] at hr1 hcp1
  have hf1 : Fr (OneB g) w W1 := by rw [hW1]; exact Fr.setCells (S := OneB g) (show OneB g g from rfl) _ _ (Fr.refl _ _).drew
  have hv1 : W1.rowIs vb 33 3 (rtV r) := hf1.row hv (fun e : vb = g => hvg e)
  have hcp2 : ∀ (W : World), (∀ x, W.cell? x = W1.cell? x) → (∀ x, W.frozen? x = W1.frozen? x) → ∀ ty dc, (Builtin.copy_ #[22, 22] ty #[.slice (some ⟨g, i * 3, none⟩) (n + 1 - i) dc, .slice (some ⟨vb, 0, none⟩) 1 1]).run Try.prog W = .ok (goInt (1 : Nat)) (W.setCells g (i * 3) (rt3 r)) := fun W hWc hWf ty dc =>
    run_copy_rows W _ _ ty 33 g (i * 3) (n + 1 - i) dc ⟨vb, 0, none⟩ 1 1 (rt3 r) 3 1 Try.underlying22 hsz (by simp only [Nat.min_def]; split <;> omega) rfl
      (fun j v hj => by rw [hWc]; exact rt3_at hv1 j v hj)
      (fun j hj => by rw [hWc, World.rowIs.cell hr1 (i := i * 3 + j) (by simp [rt3] at hj; omega)]; rfl) (fun j hj => by rw [hWf]; exact World.rowIs.frozen hr1 _) (rt3_one r)
  have hr2 := rowIs_setCells (rt3 r) (i * 3) _ _ hr1
  have hf2 : Fr (OneB g) w (W1.setCells g (i * 3) (rt3 r)) := Fr.setCells (S := OneB g) (show OneB g g from rfl) _ _ hf1
  have hfin : SlR (W1.setCells g (i * 3) (rt3 r)) 0 (.slice (some ⟨g, 0, none⟩) (n + 1) cap) (L.take i ++ r :: L.drop i) := by
    have hll : (L.take i ++ r :: L.drop i).length = n + 1 := by rw [List.length_append, List.length_cons, List.length_take, List.length_drop]; omega
    unfold SlR
    rw [hll]
    refine row_own hr2 (Nat.zero_le _) (by omega) hcm (by rw [List.length_map, rtI_len, hll]) (fun k hk => ?_)
    have e3 : rtI (L.take i ++ r :: L.drop i) = (rtI L).take (i * 3) ++ ([r.p.len, r.p.bits, r.hop] ++ (rtI L).drop (i * 3)) := by
      rw [rtI_app, rtI_take, rtI_drop]; rfl
    rw [e3, List.map_append, List.map_append]
    have l1 : (((rtI L).take (i * 3)).map (Value.int .i64)).length = i * 3 := by rw [List.length_map, List.length_take, hlen]; omega
    have l2 : (rt3 r).length = 3 := rfl
    by_cases k1 : k < i * 3
    · rw [List.getElem?_append_left (by omega), if_neg (by omega), if_neg (by omega), List.map_take, List.getElem?_take, if_pos k1, hx k (by omega)]
    · rw [List.getElem?_append_right (by omega), l1]
      by_cases k2 : k < i * 3 + 3
      · rw [if_pos (by omega)]
        have : k - i * 3 = 0 ∨ k - i * 3 = 1 ∨ k - i * 3 = 2 := by omega
        rcases this with e | e | e <;> rw [e] <;> rfl
      · rw [if_neg (by omega), if_pos (by omega), List.getElem?_append_right (by simp only [List.length_map, List.length_cons, List.length_nil]; omega)]
        have e4 : k - i * 3 - ([r.p.len, r.p.bits, r.hop].map (Value.int .i64)).length = k - (i + 1) * 3 := by simp only [List.length_map, List.length_cons, List.length_nil]; omega
        rw [e4, List.map_drop, ← hnews, List.getD_eq_getElem?_getD, hget _ (by omega)]
        rfl
  have hob : Fr (fun k => (Value.slice (some ⟨g, 0, none⟩) n cap).ownBlock = some k) w (W1.setCells g (i * 3) (rt3 r)) := hf2.mono (fun k _ e => by unfold OneB at e; subst e; rfl)
  have HFIN := Lib.hid hfin; clear hfin; have HOB := Lib.hid hob; clear hob; have HW1 := Lib.hid hW1; clear hW1
  clear hr2 hf2 hv1 hf1 hr1 hrd hget hnl hnews h1c hx hrow hv hlen hsz hsof hn hgl
  have hz2 : ¬ ((i : Int) = (n : Int)) := by omega
  have hb1 : (0 : Int) ≤ (i : Int) + 1 := by omega
  have hin : i ≤ n := by omega
  have hb2 : ¬ (cap = i + 1) := by omega
  have hb4 : ¬ (cap = i) := by omega
  have hb5 : (i : Int) ≤ (n : Int) + 1 := by omega
  have hb6 : (i : Int) + 1 ≤ (n : Int) + 1 := by omega
  have hb7 : ¬ ((cap : Int) < (n : Int) + 1) := by omega
  have hb8 : (n : Int) + 1 ≤ (cap : Int) := by omega
  have hw1 := IntWalk.i64_in ((i : Int) + 1) (by omega)
  have htn : ((i : Int) + 1).toNat = i + 1 := by omega
  clear hnc hcm
  go_enter Try.func39, Try.ntmps39
  go_wp2_with (simp only [hov])
  go_region_law (refine step_copy_run rfl _ _ 22 22 rfl _ _ (by simp [Act.eval, Act.put]) (by simp [Act.eval, Act.put]) (hcp1 _ _ _) ?_)
  go_wp2_with (at_builtin; refine wpList_copy_run _ rfl _ _ 22 22 rfl _ _ rfl rfl (hcp2 _ (fun _ => rfl) (fun _ => rfl) _ _) ?_)
  go_ret
  exact ⟨_, rfl, HFIN.out, HOB.out, fun g' e => by cases e; exact .inl rfl⟩
end Go.Proofs.Ytdkkeaegmmepfaa
