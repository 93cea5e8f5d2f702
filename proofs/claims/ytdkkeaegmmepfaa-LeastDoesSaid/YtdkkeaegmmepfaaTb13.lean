/- Walks: slices.Delete of one route. -/
import Derived.Test.YtdkkeaegmmepfaaTb12
namespace Go.Proofs.Ytdkkeaegmmepfaa
open Go.RowKit Go.Deep

theorem run_clear_routes (w : World) (ty : TypeId) (b o c : Nat) (hc : ∀ j, j < 3 → (w.cell? ⟨b, o + j, none⟩).isSome = true) (hf : ∀ j, j < 3 → w.frozen? ⟨b, o + j, none⟩ = false) :
    (Builtin.clear_ #[22] ty #[.slice (some ⟨b, o, none⟩) 1 c]).run Try.prog w = .ok (.tuple #[]) (w.setCells b o [.int .i64 0, .int .i64 0, .int .i64 0]) := by
  have hv : ∀ w, (zeroValue 33).run Try.prog w = .ok (.agg #[.int .i64 0, .int .i64 0, .int .i64 0]) w := by intro w; kernel_rfl
  have hst := run_storeCells_cells (P := Try.prog) b o [.int .i64 0, .int .i64 0, .int .i64 0] 0 w (by simpa using hc) (by simpa using hf) (by intro v hv'; simp at hv'; subst hv'; rfl)
  simp only [Nat.add_zero] at hst
  have hzc : (Builtin.zeroCells (Value.agg #[.int .i64 0, .int .i64 0, .int .i64 0]).cells 1).toList = [.int .i64 0, .int .i64 0, .int .i64 0] := by kernel_rfl
  have hst' : Sem.run Try.prog (storeCells ⟨b, o, none⟩ [.int .i64 0, .int .i64 0, .int .i64 0]) w = .ok () (w.setCells b o [.int .i64 0, .int .i64 0, .int .i64 0]) := hst
  simp [Builtin.clear_, run_underlying Try.underlying22, hv, hzc]
  rw [hst']
  rfl
def SlRN (w : World) (base : Nat) (v : Value) (n : Nat) (xs : List Int) : Prop := w.ownsRow base 33 3 v n (xs.map (Value.int .i64))
def DelRPost (g cap n : Nat) (xs : List Int) (i : Nat) (w : World) (e : Ending) (w' : World) : Prop :=
  e = .returned (.slice (some ⟨g, 0, none⟩) (n - 1) cap) ∧ SlRN w' 0 (.slice (some ⟨g, 0, none⟩) (n - 1) cap) (n - 1) (xs.take (i * 3) ++ xs.drop ((i + 1) * 3)) ∧ Fr (OneB g) w w'
set_option maxRecDepth 100000 in
set_option maxHeartbeats 4000000 in
theorem DeleteR_any (g cap n i : Nat) (xs : List Int) (w : World) (hi : i < n) (hn : n ≤ 1000) (h : SlRN w 0 (.slice (some ⟨g, 0, none⟩) n cap) n xs) :
    Calls Try.prog 40 #[.slice (some ⟨g, 0, none⟩) n cap, .int .i64 i, .int .i64 (i + 1 : Nat)] w (DelRPost g cap n xs i w) := by
  obtain ⟨hnc, hcm, _, f, hrow, hx⟩ := own_row h
  have hlen := h.1
  have hcm' : cap ≤ 9223372036854775807 := by unfold maxLen at hcm; omega
  clear h hcm
  obtain ⟨m, hm⟩ : ∃ m, m = n - (i + 1) := ⟨_, rfl⟩
  obtain ⟨news, hnews⟩ : ∃ news, news = (xs.map (Value.int .i64)).drop ((i + 1) * 3) := ⟨_, rfl⟩
  have hnl : news.length = m * 3 := by rw [hnews, List.length_drop, hlen]; omega
  have hget : ∀ t, t < m * 3 → news[t]? = some (f ((i + 1) * 3 + t)) := by
    intro t ht
    rw [hnews, List.getElem?_drop, hx _ (by omega)]
  have h1c : ∀ u ∈ news, u.oneCell' = true := by
    intro u hu
    rw [hnews] at hu
    obtain ⟨y, _, rfl⟩ := List.mem_map.1 (List.mem_of_mem_drop hu)
    rfl
  obtain ⟨A, hA, hsrc⟩ : ∃ A : Addr, (if cap = i + 1 then some (⟨g, 0, none⟩ : Addr) else some ⟨g, (i + 1) * 3, none⟩) = some A ∧ Hid (∀ t u, news[t]? = some u → w.drew.cell? (A.add t) = some u) := by
    by_cases hci : cap = i + 1
    · refine ⟨⟨g, 0, none⟩, by simp [hci], fun t u hu => ?_⟩
      have h0 : news.length = 0 := by rw [hnl]; omega
      rw [List.length_eq_zero_iff.1 h0] at hu
      simp at hu
    · refine ⟨⟨g, (i + 1) * 3, none⟩, by simp [hci], fun t u hu => ?_⟩
      have ht : t < m * 3 := by
        have := (List.getElem?_eq_some_iff.1 hu).1
        rwa [hnl] at this
      rw [hget t ht] at hu
      have := World.rowIs.cell (World.rowIs.drew hrow) (i := (i + 1) * 3 + t) (by omega)
      rw [Option.some.inj hu] at this
      have ea : (⟨g, (i + 1) * 3, none⟩ : Addr).add t = ⟨g, (i + 1) * 3 + t, none⟩ := by unfold Addr.add; split <;> simp_all
      rw [ea]; exact this
  have hspare : Hid (∀ j, j < news.length → (w.drew.cell? ⟨g, 0 + i * 3 + j, none⟩).isSome = true ∧ w.drew.frozen? ⟨g, 0 + i * 3 + j, none⟩ = false) := by
    intro j hj
    rw [hnl] at hj
    have := World.rowIs.cell (World.rowIs.drew hrow) (i := 0 + i * 3 + j) (by omega)
    exact ⟨by rw [this]; rfl, World.rowIs.frozen (World.rowIs.drew hrow) _⟩
  obtain ⟨W1, hW1⟩ : ∃ W1, W1 = w.drew.setCells g (0 + i * 3) news := ⟨_, rfl⟩
  have hrow1 := rowIs_setCells news (0 + i * 3) _ _ (World.rowIs.drew hrow)
  rw [← hW1] at hrow1
  have hf1 : Fr (OneB g) w W1 := by rw [hW1]; exact Fr.setCells (S := OneB g) (show OneB g g from rfl) _ _ (Fr.refl _ _).drew
  have hcl : ∀ ty, (Builtin.clear_ #[22] ty #[.slice (some ⟨g, (i + m) * 3, none⟩) (n - (i + m)) (cap - (i + m))]).run Try.prog W1 = .ok (.tuple #[]) (W1.setCells g ((i + m) * 3) [.int .i64 0, .int .i64 0, .int .i64 0]) := by
    intro ty
    rw [show n - (i + m) = 1 from by omega]
    exact run_clear_routes W1 ty g _ _ (fun j hj => by rw [World.rowIs.cell hrow1 (i := (i + m) * 3 + j) (by omega)]; rfl) (fun j hj => World.rowIs.frozen hrow1 _)
  have hrow2 := rowIs_setCells [.int .i64 0, .int .i64 0, .int .i64 0] ((i + m) * 3) _ _ hrow1
  have hf2 : Fr (OneB g) w (W1.setCells g ((i + m) * 3) [.int .i64 0, .int .i64 0, .int .i64 0]) := Fr.setCells (S := OneB g) (show OneB g g from rfl) _ _ hf1
  have hfin : SlRN (W1.setCells g ((i + m) * 3) [.int .i64 0, .int .i64 0, .int .i64 0]) 0 (.slice (some ⟨g, 0, none⟩) (n - 1) cap) (n - 1) (xs.take (i * 3) ++ xs.drop ((i + 1) * 3)) := by
    have hxl : xs.length = n * 3 := by simpa using hlen
    refine row_own hrow2 (Nat.zero_le _) (by omega) (by unfold maxLen; omega) (by rw [List.length_map, List.length_append, List.length_take, List.length_drop]; omega) (fun k hk => ?_)
    rw [if_neg (by omega)]
    by_cases hki : k < i * 3
    · rw [if_neg (by omega), List.map_append, List.getElem?_append_left (by simp; omega), List.map_take, List.getElem?_take, if_pos hki, hx k (by omega)]
    · rw [if_pos (by omega), List.map_append, List.getElem?_append_right (by simp; omega), List.map_drop, ← hnews, List.length_map, List.length_take, Nat.min_eq_left (by omega), hget _ (by omega)]
      have := hget (k - (0 + i * 3)) (by omega)
      rw [List.getD_eq_getElem?_getD, this, show (i + 1) * 3 + (k - i * 3) = (i + 1) * 3 + (k - (0 + i * 3)) from by omega]
      rfl
  have hW : Hid (W1 = w.drew.setCells g (0 + i * 3) news) := hW1
  have hic : i ≤ cap := by omega
  have hjc : i + 1 ≤ cap := by omega
  have him : i + m = n - 1 := by omega
  obtain ⟨i0, hi0, hz0, hz1, hz2⟩ := info_parts Try.info33
  have HI0 := Lib.hid hi0; clear hi0
  have HNL := Lib.hid hnl; have HSP := hspare
  have H1C := Lib.hid h1c; clear h1c; have HFIN := Lib.hid hfin; clear hfin; have HF2 := Lib.hid hf2; clear hf2; have HIM := Lib.hid him; clear him
  clear hW1 hrow1 hrow2 hget hnews hnl hx hrow hlen hspare hf1
  have hj1 : (i : Int) + 1 ≤ (n : Int) := by omega
  have hj0 : (0 : Int) ≤ (i : Int) + 1 := by omega
  subst hm
  go_enter Try.func40, Try.ntmps40
  go_wp2_with fail
  go_region_law (refine step_append_room rfl (.tmp 22) (.tmp 25) 22 rfl 33 i0 3 Try.underlying22 HI0.out hz1 g 0 i cap (by simp [Act.eval, Act.put]) A (n - (i + 1)) (cap - (i + 1)) news (by simp [Act.eval, Act.put]) HNL.out hsrc.out H1C.out (by omega) HSP.out ?_; rw [← hW.out])
  go_wp2
  go_ret
  exact ⟨by rw [HIM.out]; rfl, HFIN.out, HF2.out⟩

def DelTPost (v : Value) (L : List Tb.Rt) (i : Nat) (w : World) (e : Ending) (w' : World) : Prop :=
  ∃ v', e = .returned v' ∧ SlR w' 0 v' (L.take i ++ L.drop (i + 1)) ∧ Fr (fun k => v.ownBlock = some k) w w' ∧ v'.ownBlock = v.ownBlock
theorem DeleteT (v : Value) (L : List Tb.Rt) (i : Nat) (w : World) (hl : L.length ≤ 1000) (hi : i < L.length) (h : SlR w 0 v L) :
    Calls Try.prog 40 #[v, .int .i64 i, .int .i64 (i + 1 : Nat)] w (DelTPost v L i w) := by
  rcases h.2 with ⟨_, h0⟩ | ⟨g, cap, cur, rfl, h2⟩
  · omega
  · refine (DeleteR_any g cap L.length i (rtI L) w hi hl h).mono ?_
    rintro e w' ⟨rfl, hs, hf⟩
    refine ⟨_, rfl, ?_, hf.mono (fun k _ e => by unfold OneB at e; subst e; rfl), rfl⟩
    unfold SlR
    have hll : (L.take i ++ L.drop (i + 1)).length = L.length - 1 := by rw [List.length_append, List.length_take, List.length_drop]; omega
    rw [hll, rtI_app, ← rtI_take, ← rtI_drop]
    exact hs
end Go.Proofs.Ytdkkeaegmmepfaa
