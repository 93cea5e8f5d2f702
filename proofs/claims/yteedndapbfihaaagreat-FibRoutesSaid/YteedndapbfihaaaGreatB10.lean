/- Walks: slices.Delete of one of the news; take. -/
import Derived.Test.YteedndapbfihaaaGreatB9
import Derived.Deep.RegionLaw
import Derived.Lib.SliceRun
namespace Go.Proofs.YteedndapbfihaaaGreat
open Go.RowKit Go.Deep

theorem run_clear_news (w : World) (ty : TypeId) (b o c : Nat) (hc : ∀ j, j < 5 → (w.cell? ⟨b, o + j, none⟩).isSome = true) (hf : ∀ j, j < 5 → w.frozen? ⟨b, o + j, none⟩ = false) :
    (Builtin.clear_ #[36] ty #[.slice (some ⟨b, o, none⟩) 1 c]).run Tryz.prog w = .ok (.tuple #[]) (w.setCells b o [.int .i64 0, .int .i64 0, .int .i64 0, .int .i64 0, .int .i64 0]) := by
  have hv : ∀ w, (zeroValue 112).run Tryz.prog w = .ok (.agg #[.int .i64 0, .int .i64 0, .int .i64 0, .int .i64 0, .int .i64 0]) w := by intro w; kernel_rfl
  have hst := run_storeCells_cells (P := Tryz.prog) b o [.int .i64 0, .int .i64 0, .int .i64 0, .int .i64 0, .int .i64 0] 0 w (by simpa using hc) (by simpa using hf) (by intro v hv'; simp at hv'; subst hv'; rfl)
  simp only [Nat.add_zero] at hst
  have hzc : (Builtin.zeroCells (Value.agg #[.int .i64 0, .int .i64 0, .int .i64 0, .int .i64 0, .int .i64 0]).cells 1).toList = [.int .i64 0, .int .i64 0, .int .i64 0, .int .i64 0, .int .i64 0] := by kernel_rfl
  have hst' : Sem.run Tryz.prog (storeCells ⟨b, o, none⟩ [.int .i64 0, .int .i64 0, .int .i64 0, .int .i64 0, .int .i64 0]) w = .ok () (w.setCells b o [.int .i64 0, .int .i64 0, .int .i64 0, .int .i64 0, .int .i64 0]) := hst
  simp [Builtin.clear_, run_underlying Tryz.underlying36, hv, hzc]
  rw [hst']
  rfl
def DelPost (g cap n : Nat) (xs : List Int) (i : Nat) (w : World) (e : Ending) (w' : World) : Prop :=
  e = .returned (.slice (some ⟨g, 0, none⟩) (n - 1) cap) ∧ SlN w' 0 (.slice (some ⟨g, 0, none⟩) (n - 1) cap) (n - 1) (xs.take (i * 5) ++ xs.drop ((i + 1) * 5)) ∧ Fr (OneB g) w w'
set_option maxRecDepth 100000 in
set_option maxHeartbeats 4000000 in
theorem Delete_any (g cap n i : Nat) (xs : List Int) (w : World) (hi : i < n) (hn : n ≤ 1000) (h : SlN w 0 (.slice (some ⟨g, 0, none⟩) n cap) n xs) :
    Calls Tryz.prog 108 #[.slice (some ⟨g, 0, none⟩) n cap, .int .i64 i, .int .i64 (i + 1 : Nat)] w (DelPost g cap n xs i w) := by
  obtain ⟨hnc, hcm, _, f, hrow, hx⟩ := own_row h
  have hlen := h.1
  have hcm' : cap ≤ 9223372036854775807 := by unfold maxLen at hcm; omega
  clear h hcm
  obtain ⟨m, hm⟩ : ∃ m, m = n - (i + 1) := ⟨_, rfl⟩
  obtain ⟨news, hnews⟩ : ∃ news, news = (xs.map (Value.int .i64)).drop ((i + 1) * 5) := ⟨_, rfl⟩
  have hnl : news.length = m * 5 := by rw [hnews, List.length_drop, hlen]; omega
  have hget : ∀ t, t < m * 5 → news[t]? = some (f ((i + 1) * 5 + t)) := by
    intro t ht
    rw [hnews, List.getElem?_drop, hx _ (by omega)]
  have h1c : ∀ u ∈ news, u.oneCell' = true := by
    intro u hu
    rw [hnews] at hu
    obtain ⟨y, _, rfl⟩ := List.mem_map.1 (List.mem_of_mem_drop hu)
    rfl
  obtain ⟨A, hA, hsrc⟩ : ∃ A : Addr, (if cap = i + 1 then some (⟨g, 0, none⟩ : Addr) else some ⟨g, (i + 1) * 5, none⟩) = some A ∧ Hid (∀ t u, news[t]? = some u → w.drew.cell? (A.add t) = some u) := by
    by_cases hci : cap = i + 1
    · refine ⟨⟨g, 0, none⟩, by simp [hci], fun t u hu => ?_⟩
      have h0 : news.length = 0 := by rw [hnl]; omega
      rw [List.length_eq_zero_iff.1 h0] at hu
      simp at hu
    · refine ⟨⟨g, (i + 1) * 5, none⟩, by simp [hci], fun t u hu => ?_⟩
      have ht : t < m * 5 := by
        have := (List.getElem?_eq_some_iff.1 hu).1
        rwa [hnl] at this
      rw [hget t ht] at hu
      have := World.rowIs.cell (World.rowIs.drew hrow) (i := (i + 1) * 5 + t) (by omega)
      rw [Option.some.inj hu] at this
      have ea : (⟨g, (i + 1) * 5, none⟩ : Addr).add t = ⟨g, (i + 1) * 5 + t, none⟩ := by unfold Addr.add; split <;> simp_all
      rw [ea]; exact this
  have hspare : Hid (∀ j, j < news.length → (w.drew.cell? ⟨g, 0 + i * 5 + j, none⟩).isSome = true ∧ w.drew.frozen? ⟨g, 0 + i * 5 + j, none⟩ = false) := by
    intro j hj
    rw [hnl] at hj
    have := World.rowIs.cell (World.rowIs.drew hrow) (i := 0 + i * 5 + j) (by omega)
    exact ⟨by rw [this]; rfl, World.rowIs.frozen (World.rowIs.drew hrow) _⟩
  obtain ⟨W1, hW1⟩ : ∃ W1, W1 = w.drew.setCells g (0 + i * 5) news := ⟨_, rfl⟩
  have hrow1 := rowIs_setCells news (0 + i * 5) _ _ (World.rowIs.drew hrow)
  rw [← hW1] at hrow1
  have hf1 : Fr (OneB g) w W1 := by rw [hW1]; exact Fr.setCells (S := OneB g) (show OneB g g from rfl) _ _ (Fr.refl _ _).drew
  have hcl : ∀ ty, (Builtin.clear_ #[36] ty #[.slice (some ⟨g, (i + m) * 5, none⟩) (n - (i + m)) (cap - (i + m))]).run Tryz.prog W1 = .ok (.tuple #[]) (W1.setCells g ((i + m) * 5) [.int .i64 0, .int .i64 0, .int .i64 0, .int .i64 0, .int .i64 0]) := by
    intro ty
    rw [show n - (i + m) = 1 from by omega]
    exact run_clear_news W1 ty g _ _ (fun j hj => by rw [World.rowIs.cell hrow1 (i := (i + m) * 5 + j) (by omega)]; rfl) (fun j hj => World.rowIs.frozen hrow1 _)
  have hrow2 := rowIs_setCells [.int .i64 0, .int .i64 0, .int .i64 0, .int .i64 0, .int .i64 0] ((i + m) * 5) _ _ hrow1
  have hf2 : Fr (OneB g) w (W1.setCells g ((i + m) * 5) [.int .i64 0, .int .i64 0, .int .i64 0, .int .i64 0, .int .i64 0]) := Fr.setCells (S := OneB g) (show OneB g g from rfl) _ _ hf1
  have hfin : SlN (W1.setCells g ((i + m) * 5) [.int .i64 0, .int .i64 0, .int .i64 0, .int .i64 0, .int .i64 0]) 0 (.slice (some ⟨g, 0, none⟩) (n - 1) cap) (n - 1) (xs.take (i * 5) ++ xs.drop ((i + 1) * 5)) := by
    have hxl : xs.length = n * 5 := by simpa using hlen
    refine row_own hrow2 (Nat.zero_le _) (by omega) (by unfold maxLen; omega) (by rw [List.length_map, List.length_append, List.length_take, List.length_drop]; omega) (fun k hk => ?_)
    rw [if_neg (by omega)]
    by_cases hki : k < i * 5
    · rw [if_neg (by omega), List.map_append, List.getElem?_append_left (by simp; omega), List.map_take, List.getElem?_take, if_pos hki, hx k (by omega)]
    · rw [if_pos (by omega), List.map_append, List.getElem?_append_right (by simp; omega), List.map_drop, ← hnews, List.length_map, List.length_take, Nat.min_eq_left (by omega), hget _ (by omega)]
      have := hget (k - (0 + i * 5)) (by omega)
      rw [List.getD_eq_getElem?_getD, this, show (i + 1) * 5 + (k - i * 5) = (i + 1) * 5 + (k - (0 + i * 5)) from by omega]
      rfl
  have hW : Hid (W1 = w.drew.setCells g (0 + i * 5) news) := hW1
  have hic : i ≤ cap := by omega
  have hjc : i + 1 ≤ cap := by omega
  have him : i + m = n - 1 := by omega
  obtain ⟨i0, hi0, hz0, hz1, hz2⟩ := info_parts Tryz.info112
  have HI0 := Lib.hid hi0; clear hi0
  have HNL := Lib.hid hnl; have HSP := hspare
  have H1C := Lib.hid h1c; clear h1c; have HFIN := Lib.hid hfin; clear hfin; have HF2 := Lib.hid hf2; clear hf2; have HIM := Lib.hid him; clear him
  clear hW1 hrow1 hrow2 hget hnews hnl hx hrow hlen hspare hf1
  have hj1 : (i : Int) + 1 ≤ (n : Int) := by omega
  have hj0 : (0 : Int) ≤ (i : Int) + 1 := by omega
  subst hm
  go_enter Tryz.func108, Tryz.ntmps108
  go_wp2_with fail
  go_region_law (refine step_append_room rfl (.tmp 22) (.tmp 25) 36 rfl 112 i0 5 Tryz.underlying36 HI0.out hz1 g 0 i cap (by simp [Act.eval, Act.put]) A (n - (i + 1)) (cap - (i + 1)) news (by simp [Act.eval, Act.put]) HNL.out hsrc.out H1C.out (by omega) HSP.out ?_; rw [← hW.out])
  go_wp2
  go_ret
  exact ⟨by rw [HIM.out]; rfl, HFIN.out, HF2.out⟩
theorem news_cells {w : World} {base : Nat} {av : Option Addr} {n cv : Nat} {l : List Nt.Nw} (h : SlN w base (.slice av n cv) n (nwI l)) {k : Nat} (hk : k < l.length) :
    ∃ g, av = some ⟨g, 0, none⟩ ∧ w.cell? ⟨g, k * 5, none⟩ = some (.int .i64 (nwGet l k).a) ∧ w.cell? ⟨g, k * 5 + 1, none⟩ = some (.int .i64 (nwGet l k).g) ∧ w.cell? ⟨g, k * 5 + 2, none⟩ = some (.int .i64 (nwGet l k).t) ∧ w.cell? ⟨g, k * 5 + 3, none⟩ = some (.int .i64 (nwGet l k).q) ∧ w.cell? ⟨g, k * 5 + 4, none⟩ = some (.int .i64 (nwGet l k).d) := by
  obtain ⟨a, cap, he, hr, _, _, _, _, hp⟩ := ownsRow_rd h
  cases he
  have hl := h.1
  rw [List.length_map, nwI_len] at hl
  obtain ⟨e0, e1, e2, e3, e4⟩ := nwI_at l k hk
  obtain ⟨b, o, rfl, c0⟩ := hr (k * 5) (by omega)
  have ho := hp _ rfl
  simp only [Addr.mk.injEq] at ho
  obtain ⟨_, rfl, _⟩ := ho
  obtain ⟨b1, o1, x1, c1⟩ := hr (k * 5 + 1) (by omega)
  obtain ⟨b2, o2, x2, c2⟩ := hr (k * 5 + 2) (by omega)
  obtain ⟨b3, o3, x3, c3⟩ := hr (k * 5 + 3) (by omega)
  obtain ⟨b4, o4, x4, c4⟩ := hr (k * 5 + 4) (by omega)
  cases x1; cases x2; cases x3; cases x4
  rw [Nat.zero_add] at c0 c1 c2 c3 c4
  dsimp only at c0 c1 c2 c3 c4
  rw [e0] at c0
  rw [e1] at c1
  rw [e2] at c2
  rw [e3] at c3
  rw [e4] at c4
  exact ⟨b, rfl, c0, c1, c2, c3, c4⟩
def nw5 (x : Nt.Nw) : Value := .agg #[.int .i64 x.a, .int .i64 x.g, .int .i64 x.t, .int .i64 x.q, .int .i64 x.d]
def TakeNo (w : World) (e : Ending) (w' : World) : Prop := e = .returned (.tuple #[nw5 ⟨0, 0, 0, 0, 0⟩, .int .i64 6]) ∧ Fr NoB w w'
def TakeYes (x : Ids) (v : Value) (t : Nt.NT) (k : Nat) (w : World) (e : Ending) (w' : World) : Prop :=
  ∃ v', e = .returned (.tuple #[nw5 (Nt.nwAt t k), .int .i64 0]) ∧ NtAt w' x v' (Nt.lost t k) ∧ Fr (Ft x v) w w' ∧ ∀ g, v'.ownBlock = some g → v.ownBlock = some g
set_option maxRecDepth 100000 in
set_option maxHeartbeats 4000000 in
theorem take_no (x : Ids) (v : Value) (t : Nt.NT) (k : Int) (w : World) (ho : Nt.out t k) (h : NtAt w x v t) :
    Calls Tryz.prog 90 #[.pointer (some ⟨x.b, 0, none⟩), .int .i64 k] w (TakeNo w) := by
  have c7 := h.c7
  have hbl := h.lt (.inl rfl)
  obtain ⟨av, cv, rfl, j⟩ := ownsRow_rd h.news
  clear h j
  by_cases h0 : k < 0
  · clear ho
    go_enter Tryz.func90, Tryz.ntmps90
    go_wp2
    refine bodyPost_ret (v := .tuple #[nw5 ⟨0, 0, 0, 0, 0⟩, .int .i64 6]) ?_ rfl ⟨rfl, (Fr.refl _ _).alloc _⟩
    simp [results, Tryz.results90, go_sem, nw5]
  · have h1 : (t.news.length : Int) ≤ k := by unfold Nt.out at ho; omega
    clear ho
    go_enter Tryz.func90, Tryz.ntmps90
    go_wp2
    refine bodyPost_ret (v := .tuple #[nw5 ⟨0, 0, 0, 0, 0⟩, .int .i64 6]) ?_ rfl ⟨rfl, (Fr.refl _ _).alloc _⟩
    simp [results, Tryz.results90, go_sem, nw5]
set_option maxRecDepth 100000 in
set_option maxHeartbeats 4000000 in
theorem take_yes (x : Ids) (v : Value) (t : Nt.NT) (k : Nat) (w : World) (hk : k < t.news.length) (hl : t.news.length ≤ 40) (h : NtAt w x v t) :
    Calls Tryz.prog 90 #[.pointer (some ⟨x.b, 0, none⟩), .int .i64 k] w (TakeYes x v t k w) := by
  have c7 := h.c7
  have hbl := h.lt (.inl rfl)
  obtain ⟨av, cv, rfl, j⟩ := ownsRow_rd h.news
  clear j
  obtain ⟨g, rfl, d0, d1, d2, d3, d4⟩ := news_cells h.news hk
  have hki : (k : Int) < (t.news.length : Int) := by omega
  have hnw : nwGet t.news k = Nt.nwAt t k := rfl
  rw [hnw] at d0 d1 d2 d3 d4
  have hob : (Value.slice (some ⟨g, 0, none⟩) t.news.length cv).ownBlock = some g := rfl
  have hgl := h.lt (.inr (.inr (.inr hob)))
  have hsum := IntWalk.i64_in ((k : Int) + 1) (by omega)
  have H := Lib.hid h; clear h; have HL := Lib.hid hl; clear hl
  clear hnw hob
  go_enter Tryz.func90, Tryz.ntmps90
  go_upto_region 4 with fail
  refine wp_name fun w1 hw1 => ?_
  have hf : Fr NoB w w1 := by rw [hw1]; exact ((Fr.refl _ _).alloc _).alloc _
  have hr0 : w1.rowIs w.heap.size 112 5 (fun _ => .int .i64 0) := by rw [hw1]; exact World.rowIs.alloc (rowIs_new w 5 (.int .i64 0) 112) _
  have b0 : w1.cell? ⟨w.heap.size + 1, 0, none⟩ = some (.int .i64 (Nt.nwAt t k).a) := by rw [hw1]; simp
  have b1 : w1.cell? ⟨w.heap.size + 1, 1, none⟩ = some (.int .i64 (Nt.nwAt t k).g) := by rw [hw1]; simp
  have b2 : w1.cell? ⟨w.heap.size + 1, 2, none⟩ = some (.int .i64 (Nt.nwAt t k).t) := by rw [hw1]; simp
  have b3 : w1.cell? ⟨w.heap.size + 1, 3, none⟩ = some (.int .i64 (Nt.nwAt t k).q) := by rw [hw1]; simp
  have b4 : w1.cell? ⟨w.heap.size + 1, 4, none⟩ = some (.int .i64 (Nt.nwAt t k).d) := by rw [hw1]; simp
  have h1 := H.out.keep0 hf
  have c7 := h1.c7
  have hpp : ∀ i, Ft x (.slice (some ⟨g, 0, none⟩) t.news.length cv) i → i < w.heap.size := fun i hi => H.out.lt hi
  clear hw1 H d0 d1 d2 d3 d4 hgl
  generalize hp0 : w.heap.size = p0 at *
  generalize hp1 : p0 + 1 = p1 at *
  have hp01 : p0 < p1 := by omega
  have hzz : w.heap.size ≤ p0 := by omega
  have hzz1 : w.heap.size ≤ p1 := by omega
  clear hp0 hp1
  have H := Lib.hid h1; clear h1; have HF := Lib.hid hf; clear hf; have HR0 := Lib.hid hr0; clear hr0; have HPP := Lib.hid hpp; clear hpp; have HP01 := Lib.hid hp01; clear hp01; have HZZ := Lib.hid hzz; clear hzz
  go_wp2_with fail
  refine (Delete_any g cv t.news.length k (nwI t.news) _ hk (by have := HL.out; omega) H.out.news).mono ?_
  rintro e w2 ⟨rfl, hn, hf⟩
  have hob : (Value.slice (some ⟨g, 0, none⟩) t.news.length cv).ownBlock = some g := rfl
  have hgp := HPP.out g (.inr (.inr (.inr hob)))
  have hp01 := HP01.out
  have hbp := HPP.out x.b (.inl rfl)
  have hfv : Fr (fun i => (Value.slice (some ⟨g, 0, none⟩) t.news.length cv).ownBlock = some i) w1 w2 := hf.mono (fun i _ h => by unfold OneB at h; subst h; rfl)
  have hlen : (t.news.take k ++ t.news.drop (k + 1)).length = t.news.length - 1 := by rw [List.length_append, List.length_take, List.length_drop]; omega
  have hn' : SlN w2 0 (.slice (some ⟨g, 0, none⟩) (t.news.length - 1) cv) (t.news.take k ++ t.news.drop (k + 1)).length (nwI (t.news.take k ++ t.news.drop (k + 1))) := by
    rw [hlen, nwI_app, ← nwI_take, ← nwI_drop]; exact hn
  have h2 : NtAt (w2.setCell ⟨x.b, 7, none⟩ (.slice (some ⟨g, 0, none⟩) (t.news.length - 1) cv)) x (.slice (some ⟨g, 0, none⟩) (t.news.length - 1) cv) (Nt.lost t k) := H.out.setV hn' hfv
  have hff : Fr (Ft x (.slice (some ⟨g, 0, none⟩) t.news.length cv)) w (w2.setCell ⟨x.b, 7, none⟩ (.slice (some ⟨g, 0, none⟩) (t.news.length - 1) cv)) :=
    (HF.out.mono (fun _ _ h => h.elim)).trans ((hfv.mono (fun _ _ h => .inr (.inr (.inr h)))).setCell (p := ⟨x.b, 7, none⟩) (.inl (.inl rfl)) _)
  have hfs : Fr (OneB x.b) w2 (w2.setCell ⟨x.b, 7, none⟩ (.slice (some ⟨g, 0, none⟩) (t.news.length - 1) cv)) := (Fr.refl _ _).set1 _ _
  have q7 := cell_fr hf c7 (fun e : x.b = g => H.out.bv (by rw [e]; rfl))
  have qf : w2.frozen? ⟨x.b, 7, none⟩ = false := World.rowIs.frozen (hfv.row H.out.net H.out.bv) 7
  have k0 := cell_fr hfs (cell_fr hf b0 (fun e : p1 = g => by omega)) (fun e : p1 = x.b => by omega)
  have k1 := cell_fr hfs (cell_fr hf b1 (fun e : p1 = g => by omega)) (fun e : p1 = x.b => by omega)
  have k2 := cell_fr hfs (cell_fr hf b2 (fun e : p1 = g => by omega)) (fun e : p1 = x.b => by omega)
  have k3 := cell_fr hfs (cell_fr hf b3 (fun e : p1 = g => by omega)) (fun e : p1 = x.b => by omega)
  have k4 := cell_fr hfs (cell_fr hf b4 (fun e : p1 = g => by omega)) (fun e : p1 = x.b => by omega)
  have hr := hfs.row (hf.row HR0.out (fun e : p0 = g => by omega)) (fun e : p0 = x.b => by omega)
  have hpo : ∀ i, Ft x (.slice (some ⟨g, 0, none⟩) (t.news.length - 1) cv) i → i ≠ p0 := by
    intro i hi e
    subst e
    have hlt : i < i := by
      rcases hi with hi | hi | hi | hi
      · exact HPP.out i (.inl hi)
      · exact HPP.out i (.inr (.inl hi))
      · exact HPP.out i (.inr (.inr (.inl hi)))
      · exact HPP.out i (.inr (.inr (.inr hi)))
    omega
  clear hn hf hfv hlen hn' hfs c7 b0 b1 b2 b3 b4 H HF HR0 HPP hob hgp hbp hp01
  have H := Lib.hid h2; clear h2; have HF := Lib.hid hff; clear hff; have HR := Lib.hid hr; clear hr; have HPO := Lib.hid hpo; clear hpo
  go_upto_region 5 with fail
  refine wp_name fun w3 hw3 => ?_
  rw [← hw3] at k0 k1 k2 k3 k4
  have h3 := H.out
  rw [← hw3] at h3
  have hf3 := HF.out
  rw [← hw3] at hf3
  have hr3 := HR.out
  rw [← hw3] at hr3
  have z0 := World.rowIs.cell hr3 (i := 0) (by omega)
  have z1 := World.rowIs.cell hr3 (i := 1) (by omega)
  have z2 := World.rowIs.cell hr3 (i := 2) (by omega)
  have z3 := World.rowIs.cell hr3 (i := 3) (by omega)
  have z4 := World.rowIs.cell hr3 (i := 4) (by omega)
  have y0 := World.rowIs.frozen hr3 0
  have y1 := World.rowIs.frozen hr3 1
  have y2 := World.rowIs.frozen hr3 2
  have y3 := World.rowIs.frozen hr3 3
  have y4 := World.rowIs.frozen hr3 4
  clear H HF HR hw3 q7 qf
  have H := Lib.hid h3; clear h3; have HF := Lib.hid hf3; clear hf3; have HR3 := Lib.hid hr3; clear hr3
  go_wp2
  refine bodyPost_ret (v := .tuple #[nw5 (Nt.nwAt t k), .int .i64 0]) ?_ rfl ⟨_, rfl, H.out.keep (S := OneB p0) (((((Fr.refl _ _).set1 _ _).set1 _ _).set1 _ _).set1 _ _ |>.set1 _ _) HPO.out, (HF.out.setNew HZZ.out _ _).setNew HZZ.out _ _ |>.setNew HZZ.out _ _ |>.setNew HZZ.out _ _ |>.setNew HZZ.out _ _, fun g' hg' => hg'⟩
  have hR := World.rowIs.set (World.rowIs.set (World.rowIs.set (World.rowIs.set (World.rowIs.set HR3.out 0 (.int .i64 (Nt.nwAt t k).a)) 1 (.int .i64 (Nt.nwAt t k).g)) 2 (.int .i64 (Nt.nwAt t k).t)) 3 (.int .i64 (Nt.nwAt t k).q)) 4 (.int .i64 (Nt.nwAt t k).d)
  have s0 := World.rowIs.cell hR (i := 0) (by omega)
  have s1 := World.rowIs.cell hR (i := 1) (by omega)
  have s2 := World.rowIs.cell hR (i := 2) (by omega)
  have s3 := World.rowIs.cell hR (i := 3) (by omega)
  have s4 := World.rowIs.cell hR (i := 4) (by omega)
  clear hR
  generalize ((((w3.setCell ⟨p0, 0, none⟩ (.int .i64 (Nt.nwAt t k).a)).setCell ⟨p0, 1, none⟩ (.int .i64 (Nt.nwAt t k).g)).setCell ⟨p0, 2, none⟩ (.int .i64 (Nt.nwAt t k).t)).setCell ⟨p0, 3, none⟩ (.int .i64 (Nt.nwAt t k).q)).setCell ⟨p0, 4, none⟩ (.int .i64 (Nt.nwAt t k).d) = W5 at *
  simp at s0 s1 s2 s3 s4
  simp [results, Tryz.results90, go_sem, nw5, s0, s1, s2, s3, s4]
end Go.Proofs.YteedndapbfihaaaGreat
