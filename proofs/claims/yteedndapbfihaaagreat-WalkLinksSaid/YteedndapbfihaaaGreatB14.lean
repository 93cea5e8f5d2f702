/- Walks over the reference's town: tell, Way, NewTown. -/
import Derived.Test.YteedndapbfihaaaGreatB13
import Derived.Test.YteedndapbfihaaaGreatB12
namespace Go.Proofs.YteedndapbfihaaaGreat
open Go.RowKit Go.Deep

set_option maxRecDepth 100000 in
set_option maxHeartbeats 4000000 in
theorem Ttell_any (y : TIds) (u : Value) (t : Nt.NT) (a b : Int) (m : Nat) (w : World) (hr : Nt.NOk t m) (h : TnAt w y u t) :
    Calls Tryz.prog 71 #[.pointer (some ⟨y.b, 0, none⟩), .int .i64 a, .int .i64 b] w (TnDo y u (Nt.tellT t a b).1 (Nt.tellT t a b).2 w) := by
  by_cases ha : Nt.isN a
  · by_cases hb : Nt.isN b
    · obtain ⟨p, rfl⟩ := Int.eq_ofNat_of_zero_le ha.1
      obtain ⟨q, rfl⟩ := Int.eq_ofNat_of_zero_le hb.1
      have hp : p < 6 := by have := ha.2; omega
      have hq : q < 6 := by have := hb.2; omega
      have hab : ¬ ¬ (Nt.isN p ∧ Nt.isN q) := fun h => h ⟨ha, hb⟩
      clear ha hb
      have cM := h.cM hp hq
      have H := Lib.hid h; clear h; have HR := Lib.hid hr; clear hr
      by_cases hz : t.C p q = 0
      · have e : Nt.tellT t p q = (t, 6) := by rw [Nt.tellT, if_neg hab, Int.toNat_natCast, Int.toNat_natCast, if_pos hz]
        rw [e]
        have hzb : (t.C p q == 0) = true := by simp [hz]
        clear e hab hz
        go_enter Tryz.func71, Tryz.ntmps71
        go_wp2_with (first | (go_at_call 20; refine (RNode_yes _ _ (by omega) (by omega)).mono ?_; rintro e w' ⟨rfl, rfl⟩))
        go_ret
        exact TnDo.none H.out (Fr.refl _ _)
      · have hzb : (t.C p q == 0) = false := by simpa using hz
        obtain ⟨av, cv, rfl, j⟩ := ownsRow_rd H.out.news
        clear j
        have c42 := H.out.c42
        have hl40 := HR.out.len
        have hsum := IntWalk.i64_in ((t.news.length : Int) + 6) (by omega)
        by_cases hl : 40 < t.news.length + 6
        · have e : Nt.tellT t p q = (t, 9) := by rw [Nt.tellT, if_neg hab, Int.toNat_natCast, Int.toNat_natCast, if_neg hz, if_pos hl]
          rw [e]
          clear e hab hz
          have hlb : decide ((40 : Int) < (t.news.length : Int) + 6) = true := by simp; omega
          have HL40 := Lib.hid hl40; clear hl40
          clear hl
          go_enter Tryz.func71, Tryz.ntmps71
          go_wp2_with (first | (go_at_call 20; refine (RNode_yes _ _ (by omega) (by omega)).mono ?_; rintro e w' ⟨rfl, rfl⟩))
          go_ret
          exact TnDo.none H.out (Fr.refl _ _)
        · have e : Nt.tellT t p q = ({ t with news := t.news ++ Nt.tellW (t.N p) q 6 }, 0) := by rw [Nt.tellT, if_neg hab, Int.toNat_natCast, Int.toNat_natCast, if_neg hz, if_neg hl]
          rw [e]
          clear e hab hz
          have hlb : decide ((40 : Int) < (t.news.length : Int) + 6) = false := by simp; omega
          have HL40 := Lib.hid hl40; clear hl40
          clear hl
          have c1 := H.out.cN hp
          go_enter Tryz.func71, Tryz.ntmps71
          go_wp2_with (first | (go_at_call 20; refine (RNode_yes _ _ (by omega) (by omega)).mono ?_; rintro e w' ⟨rfl, rfl⟩))
          have hwd : w.drew.heap.size = w.heap.size := rfl
          have hpi : (p : Int) < 6 := by omega
          have key : ∀ (w1 : World) (v1 : Value), SlN w1 w.heap.size v1 6 (Nd.tellL (t.N p) q 6) → Fr NoB w w1 → TnAt w1 y (.slice av t.news.length cv) t ∧ w1.cell? ⟨y.b, 42, none⟩ = some (.slice av t.news.length cv) ∧ w1.frozen? ⟨y.b, 42, none⟩ = false ∧ ∃ g1 cap1, v1 = .slice (some ⟨g1, 0, none⟩) 6 cap1 := by
            intro w1 v1 hv1 hf
            refine ⟨H.out.keep0 hf, cell_fr hf c42 (fun h => h), World.rowIs.frozen (hf.row H.out.row (fun h => h)) 42, ?_⟩
            rcases hv1.2 with ⟨_, h0⟩ | ⟨g, cap, cur, h2, _⟩
            · omega
            · exact ⟨g, cap, h2⟩
          have key2 : ∀ (w1 : World), TnAt w1 y (.slice av t.news.length cv) t → Fr NoB w w1 → ∀ (g cap : Nat) (w2 : World), w2.ownsRow 0 112 5 (.slice (some ⟨g, 0, none⟩) (t.news.length + 6) cap) (t.news.length + 6) ((nwI t.news).map (Value.int .i64) ++ (Nd.tellL (t.N p) q 6).map (Value.int .i64)) → Fr (fun i => (Value.slice av t.news.length cv).ownBlock = some i) w1 w2 → ((Value.slice av t.news.length cv).ownBlock = some g ∨ w1.heap.size ≤ g) →
              w2.cell? ⟨y.b, 42, none⟩ = some (.slice av t.news.length cv) ∧ w2.frozen? ⟨y.b, 42, none⟩ = false ∧ Hid (TnDo y (.slice av t.news.length cv) { t with news := t.news ++ Nt.tellW (t.N p) q 6 } 0 w (.returned (.int .i64 0)) (w2.setCell ⟨y.b, 42, none⟩ (.slice (some ⟨g, 0, none⟩) (t.news.length + 6) cap))) := by
            intro w1 h1 hf1 g cap w2 h2 hf hlie
            have hll : (t.news ++ Nt.tellW (t.N p) q 6).length = t.news.length + 6 := by rw [List.length_append, Nt.tellW_len]
            have hv2 : SlN w2 0 (.slice (some ⟨g, 0, none⟩) (t.news.length + 6) cap) (t.news ++ Nt.tellW (t.N p) q 6).length (nwI (t.news ++ Nt.tellW (t.N p) q 6)) := by
              rw [hll, nwI_app, ← nwI_tell]
              unfold SlN
              rw [List.map_append]
              exact h2
            refine ⟨cell_fr hf h1.c42 h1.bv, World.rowIs.frozen (hf.row h1.row h1.bv) 42, ⟨_, rfl, h1.setV hv2 hf, ((hf1.mono (fun _ _ h => h.elim)).trans (hf.mono (fun _ _ h => .inr (.inr h)))).setCell (p := ⟨y.b, 42, none⟩) (.inl (.inl rfl)) _, fun g' hg' => ?_⟩⟩
            simp only [Value.ownBlock, Option.some.injEq] at hg'
            subst hg'
            rcases hlie with h | h
            · exact .inl h
            · exact .inr (by have := hf1.size; omega)
          have KEY := Lib.hid key; clear key; have KEY2 := Lib.hid key2; clear key2
          go_region_law (first | (go_simp; go_at_call 97; refine (MTell_any (y.N p) q (t.N p) _ (by exact H.out.node p hp)).mono ?_; rintro e w1 ⟨v1, rfl, hv1, hf0⟩; have hf := (Fr.refl NoB w).drew.trans hf0; clear hf0; obtain ⟨h1, q7, qf, g1, cap1, rfl⟩ := KEY.out _ _ hv1 hf; have HV1 := Lib.hid hv1; clear hv1; have HF1 := Lib.hid hf; clear hf; have H1 := Lib.hid h1; clear h1) | (refine step_lies (by rfl) (.tmp 35) (.tmp 43) 36 112 5 40 (.agg #[.int .i64 0, .int .i64 0, .int .i64 0, .int .i64 0, .int .i64 0]) (by rfl) Tryz.underlying36 Tryz.info112 rfl (by omega) 0 (.slice av t.news.length cv) t.news.length _ (by rfl) H1.out.news ⟨g1, 0, none⟩ 6 cap1 ((Nd.tellL (t.N p) q 6).map (Value.int .i64)) (by rfl) (by rw [List.length_map, Nd.tellL_len]) (fun j u hu => news_rd HV1.out j u g1 rfl hu) (by intro u hu; obtain ⟨y, _, rfl⟩ := List.mem_map.1 hu; rfl) (by omega) (by have := HL40.out; omega) (by omega) (by omega) ?_; intro g cap w2 h2 hf hlie; obtain ⟨q7', qf', HFIN⟩ := KEY2.out _ H1.out (by exact HF1.out) g cap w2 h2 hf hlie; clear h2 hf hlie))
          all_goals (clear q7 qf q7' qf' HV1 HF1 H1; go_wp2; go_ret; exact HFIN.out)
    · have e : Nt.tellT t a b = (t, 1) := by rw [Nt.tellT, if_pos (fun h => hb h.2)]
      rw [e]
      clear e
      have H := Lib.hid h; clear h; have HR := Lib.hid hr; clear hr; have HB := Lib.hid hb; clear hb
      obtain ⟨a0, a1⟩ := ha
      go_enter Tryz.func71, Tryz.ntmps71
      go_wp2_with fail
      refine (RNode_yes _ _ a0 a1).mono ?_; rintro e w' ⟨rfl, rfl⟩
      go_wp2_with fail
      refine (RNode_no _ _ HB.out).mono ?_; rintro e w' ⟨rfl, rfl⟩
      go_wp2
      go_ret
      exact TnDo.none H.out (Fr.refl _ _)
  · have e : Nt.tellT t a b = (t, 1) := by rw [Nt.tellT, if_pos (fun h => ha h.1)]
    rw [e]
    clear e
    have H := Lib.hid h; clear h; have HR := Lib.hid hr; clear hr; have HA := Lib.hid ha; clear ha
    go_enter Tryz.func71, Tryz.ntmps71
    go_wp2_with fail
    refine (RNode_no _ _ HA.out).mono ?_; rintro e w' ⟨rfl, rfl⟩
    go_wp2
    go_ret
    exact TnDo.none H.out (Fr.refl _ _)
set_option maxRecDepth 100000 in
set_option maxHeartbeats 2000000 in
theorem TWay_any (y : TIds) (u : Value) (t : Nt.NT) (a b : Int) (w : World) (h : TnAt w y u t) :
    Calls Tryz.prog 48 #[.pointer (some ⟨y.b, 0, none⟩), .int .i64 a, .int .i64 b] w (WayFr (if Nt.isN a then Nd.wayAt (t.N a.toNat) b else Nd.noWay) w) := by
  by_cases ha : Nt.isN a
  · rw [if_pos ha]
    obtain ⟨p, rfl⟩ := Int.eq_ofNat_of_zero_le ha.1
    rw [Int.toNat_natCast]
    have hp : p < 6 := by have := ha.2; omega
    have c1 := h.cN hp
    have hbl := h.lt (.inl rfl)
    have hpi : (p : Int) < 6 := by omega
    clear ha
    have H := Lib.hid h; clear h
    go_enter Tryz.func48, Tryz.ntmps48
    go_wp2_with fail
    refine (RNode_yes _ _ (by omega) (by omega)).mono ?_; rintro e w' ⟨rfl, rfl⟩
    go_wp2_with fail
    refine (MWay_any (y.N p) b (t.N p) _ ((H.out.node p hp).alloc _)).mono ?_
    rintro e w1 ⟨rfl, hf⟩
    have hr := hf.row (rowIs_new w 3 (.int .i64 0) 47) (fun h => h)
    have hf1 : Fr NoB w w1 := ((Fr.refl _ w).alloc _).trans hf
    have z0 := World.rowIs.cell hr (i := 0) (by omega)
    have z1 := World.rowIs.cell hr (i := 1) (by omega)
    have z2 := World.rowIs.cell hr (i := 2) (by omega)
    have y0 := World.rowIs.frozen hr 0
    have y1 := World.rowIs.frozen hr 1
    have y2 := World.rowIs.frozen hr 2
    clear hf H c1 hbl
    have HF := Lib.hid hf1; clear hf1; have HR := Lib.hid hr; clear hr
    generalize hpz : w.heap.size = pz at *
    generalize hwy : Nd.wayAt (t.N p) b = wy at *
    have HWY := Lib.hid hwy; clear hwy
    obtain ⟨wa, wb, wc⟩ := wy
    unfold way3
    go_wp2
    refine bodyPost_ret (v := .agg #[.int .i64 wa, .int .i64 wb, .int .i64 wc]) ?_ rfl ⟨rfl, ((HF.out.setNew (by omega) _ _).setNew (by omega) _ _).setNew (by omega) _ _⟩
    have hR := World.rowIs.set (World.rowIs.set (World.rowIs.set HR.out 0 (.int .i64 wa)) 1 (.int .i64 wb)) 2 (.int .i64 wc)
    have s0 := World.rowIs.cell hR (i := 0) (by omega)
    have s1 := World.rowIs.cell hR (i := 1) (by omega)
    have s2 := World.rowIs.cell hR (i := 2) (by omega)
    clear hR
    generalize ((w1.setCell ⟨pz, 0, none⟩ (.int .i64 wa)).setCell ⟨pz, 1, none⟩ (.int .i64 wb)).setCell ⟨pz, 2, none⟩ (.int .i64 wc) = W5 at *
    simp at s0 s1 s2
    simp [results, Tryz.results48, go_sem, s0, s1, s2]
  · rw [if_neg ha]
    clear h
    have HA := Lib.hid ha; clear ha
    go_enter Tryz.func48, Tryz.ntmps48
    go_wp2_with fail
    refine (RNode_no _ _ HA.out).mono ?_; rintro e w' ⟨rfl, rfl⟩
    go_wp2
    refine bodyPost_ret (v := way3 Nd.noWay) ?_ rfl ⟨rfl, (Fr.refl _ _).alloc _⟩
    simp [results, Tryz.results48, go_sem, way3, Nd.noWay]
def NewTPost (w : World) (e : Ending) (w' : World) : Prop := ∃ (y : TIds) (u : Value), e = .returned (.pointer (some ⟨y.b, 0, none⟩)) ∧ TnAt w' y u Nt.begun ∧ Fr NoB w w' ∧ (∀ i, FtT y u i → w.heap.size ≤ i) ∧ y.own = .slice none 0 0
def tnF0 (N : Nat → Nat) (k : Nat) (j : Nat) : Value := if j < 36 then .int .i64 0 else if j < 42 then (if j - 36 < k then .pointer (some ⟨N (j - 36), 0, none⟩) else .pointer none) else .slice none 0 0
def NewTRel (w : World) (b : Nat) (i : Value) (wr : World) : Prop :=
  ∃ (k : Nat) (N : Nat → Nat), k ≤ 6 ∧ i = .int .i64 k ∧ wr.rowIs b 38 44 (tnF0 N k) ∧
    (∀ j, j < k → NAt wr (N j) 151 (Nd.fresh j)) ∧ (∀ j, j < k → w.heap.size ≤ N j) ∧ (∀ j l, j < k → l < k → N j = N l → j = l) ∧ w.heap.size ≤ b ∧ Fr NoB w wr
set_option maxRecDepth 100000 in
set_option maxHeartbeats 4000000 in
theorem NewTn (w : World) : Calls Tryz.prog 41 #[] w (NewTPost w) := by
  go_enter Tryz.func41, Tryz.ntmps41
  go_wp2
  refine wp_name fun w2 hw2 => ?_
  have hf : Fr NoB w w2 := by rw [hw2]; exact (Fr.refl _ _).alloc _
  have hrow : w2.rowIs w.heap.size 38 44 (tnF0 (fun _ => 0) 0) := by
    rw [hw2]
    exact World.rowIs_alloc w _ _ _ (fun i hi => by
      have hi' : i < 44 := hi
      match i, hi' with
      | 0, _ => rfl
      | 1, _ => rfl
      | 2, _ => rfl
      | 3, _ => rfl
      | 4, _ => rfl
      | 5, _ => rfl
      | 6, _ => rfl
      | 7, _ => rfl
      | 8, _ => rfl
      | 9, _ => rfl
      | 10, _ => rfl
      | 11, _ => rfl
      | 12, _ => rfl
      | 13, _ => rfl
      | 14, _ => rfl
      | 15, _ => rfl
      | 16, _ => rfl
      | 17, _ => rfl
      | 18, _ => rfl
      | 19, _ => rfl
      | 20, _ => rfl
      | 21, _ => rfl
      | 22, _ => rfl
      | 23, _ => rfl
      | 24, _ => rfl
      | 25, _ => rfl
      | 26, _ => rfl
      | 27, _ => rfl
      | 28, _ => rfl
      | 29, _ => rfl
      | 30, _ => rfl
      | 31, _ => rfl
      | 32, _ => rfl
      | 33, _ => rfl
      | 34, _ => rfl
      | 35, _ => rfl
      | 36, _ => rfl
      | 37, _ => rfl
      | 38, _ => rfl
      | 39, _ => rfl
      | 40, _ => rfl
      | 41, _ => rfl
      | 42, _ => rfl
      | 43, _ => rfl
      | n + 44, h => exact absurd h (by omega))
  clear hw2
  have hz : w.heap.size ≤ w.heap.size := Nat.le_refl _
  generalize hb' : w.heap.size = b at *
  have hz : w.heap.size ≤ b := by omega
  clear hb'
  have HF := Lib.hid hf; clear hf; have HRO := Lib.hid hrow; clear hrow; have HZ := Lib.hid hz; clear hz
  go_loopw [2] (fun i wr => NewTRel w b i wr) (fun i _ => 6 - (intOf i).toNat)
  case atStart => exact ⟨0, fun _ => 0, by omega, rfl, HRO.out, fun j h => by omega, fun j h => by omega, fun j l h => by omega, HZ.out, HF.out⟩
  case round =>
    clear HF HRO HZ
    obtain ⟨k, N, hk, rfl, hrow, hn, hN, hinj, hb, hf⟩ := hrel
    have HRO := Lib.hid hrow; clear hrow; have HN := Lib.hid hn; clear hn; have HNN := Lib.hid hN; clear hN; have HI := Lib.hid hinj; clear hinj; have HB := Lib.hid hb; clear hb; have HF := Lib.hid hf; clear hf
    by_cases hk6 : k < 6
    · have hki : (k : Int) < 6 := by omega
      have c1 := World.rowIs.cell HRO.out (i := 36 + k) (by omega)
      rw [tnF0, if_neg (by omega), if_pos (by omega), if_neg (by omega)] at c1
      have f1 := World.rowIs.frozen HRO.out (36 + k)
      go_wp2_with fail
      go_region_held3 (fun W => (W.cell? ⟨b, 36 + k, none⟩).isSome = true ∧ W.frozen? ⟨b, 36 + k, none⟩ = false)
        (first | exact ⟨congrArg Option.isSome c1, f1⟩ | exact ⟨congrArg Option.isSome t1, t2⟩ | exact ⟨congrArg Option.isSome (World.cell?_setCell_same' _ _ _ (congrArg Option.isSome t1)), World.rowIs.frozen (World.rowIs.set hro6 (36 + k) _) _⟩)
        ((go_at_call 67; refine (NewMind_any k _ hk6).mono ?_; rintro e w6 ⟨rfl, hnn, hff⟩; have hro6 := hff.row (World.rowIs.drew HRO.out) (fun h => h); have t1 := cell_fr hff c1 (fun h => h); have t2 := World.rowIs.frozen hro6 (36 + k)))
      have hnn : NAt w6 wr.heap.size 151 (Nd.fresh k) := hnn
      have hrow : (w6.setCell ⟨b, 36 + k, none⟩ (.pointer (some ⟨wr.heap.size, 0, none⟩))).rowIs b 38 44 (tnF0 (fun j => if j = k then wr.heap.size else N j) (k + 1)) := by
        refine (World.rowIs.set hro6 (36 + k) _).congr (fun i hi => ?_)
        unfold tnF0
        dsimp only
        by_cases e : i = 36 + k
        · subst e
          rw [if_pos rfl, if_neg (by omega), if_pos (by omega), if_pos (by omega), if_pos (by omega)]
        · rw [if_neg e]
          by_cases h0 : i < 36
          · rw [if_pos h0, if_pos h0]
          · rw [if_neg h0, if_neg h0]
            by_cases h7 : i < 42
            · rw [if_pos h7, if_pos h7]
              by_cases hk1 : i - 36 < k
              · rw [if_pos hk1, if_pos (by omega), if_neg (by omega)]
              · rw [if_neg hk1, if_neg (by omega)]
            · rw [if_neg h7, if_neg h7]
      have hbz : b < wr.heap.size := World.rowIs.lt HRO.out
      have hfs : Fr (OneB b) w6 (w6.setCell ⟨b, 36 + k, none⟩ (.pointer (some ⟨wr.heap.size, 0, none⟩))) := (Fr.refl _ _).set1 _ _
      have hwz : w.heap.size ≤ wr.heap.size := HF.out.size
      have hn2 : ∀ j, j < k + 1 → NAt (w6.setCell ⟨b, 36 + k, none⟩ (.pointer (some ⟨wr.heap.size, 0, none⟩))) (if j = k then wr.heap.size else N j) 151 (Nd.fresh j) := by
        intro j hj
        by_cases e : j = k
        · rw [if_pos e, e]; exact hnn.keep hfs (fun h : wr.heap.size = b => by omega)
        · rw [if_neg e]
          have h1 := HN.out j (by omega)
          exact (NAt.keep (w := wr.drew) (World.rowIs.drew h1) hff (fun h => h)).keep hfs (fun h : N j = b => rows_apart HRO.out h1 (by decide) h.symm)
      have hf2 : Fr NoB w (w6.setCell ⟨b, 36 + k, none⟩ (.pointer (some ⟨wr.heap.size, 0, none⟩))) := (HF.out.drew.trans hff).setNew HB.out _ _
      have hi2 : ∀ j l, j < k + 1 → l < k + 1 → (if j = k then wr.heap.size else N j) = (if l = k then wr.heap.size else N l) → j = l := by
        intro j l hj hl h
        by_cases e : j = k
        · by_cases e' : l = k
          · omega
          · rw [if_pos e, if_neg e'] at h
            have := (HN.out l (by omega)).lt
            omega
        · by_cases e' : l = k
          · rw [if_neg e, if_pos e'] at h
            have := (HN.out j (by omega)).lt
            omega
          · rw [if_neg e, if_neg e'] at h
            exact HI.out j l (by omega) (by omega) h
      clear hro6 t1 t2 hff hfs hnn c1 f1
      have HR2 := Lib.hid hrow; clear hrow; have HN2 := Lib.hid hn2; clear hn2; have HF2 := Lib.hid hf2; clear hf2; have HI2 := Lib.hid hi2; clear hi2
      go_wp2
      go_roundw
      case rel => exact ⟨k + 1, fun j => if j = k then wr.heap.size else N j, by omega, by go_num, HR2.out, HN2.out, fun j hj => by
        dsimp only
        by_cases e : j = k
        · rw [if_pos e]; exact hwz
        · rw [if_neg e]; exact HNN.out j (by omega), HI2.out, HB.out, HF2.out⟩
      case measure => simp [intOf]; omega
    · obtain rfl : k = 6 := by omega
      go_wp2
      go_ret
      refine ⟨⟨b, N, .slice none 0 0⟩, .slice none 0 0, rfl, ⟨HRO.out.congr (fun i hi => ?_), HN.out, World.ownsRow_nil _ _ _ _, fun j k hj hk h => HI.out j k hj hk h⟩, HF.out, fun i hi => ?_, rfl⟩
      · unfold tnF tnF0
        by_cases h0 : i < 36
        · rw [if_pos h0, if_pos h0]; rfl
        · rw [if_neg h0, if_neg h0]
          by_cases h7 : i < 42
          · rw [if_pos h7, if_pos h7, if_pos (by omega)]
          · rw [if_neg h7, if_neg h7]
            split <;> rfl
      · rcases hi with rfl | ⟨k, hk, rfl⟩ | hi
        · exact HB.out
        · exact HNN.out k hk
        · cases hi
end Go.Proofs.YteedndapbfihaaaGreat
/- Walks over the reference's town: Do. -/
namespace Go.Proofs.YteedndapbfihaaaGreat
open Go.RowKit Go.Deep

def TDoSaid (y : TIds) (u : Value) (t : Nt.NT) (k a b n pl pb : Int) (w : World) : Prop :=
  Calls Tryz.prog 42 #[.pointer (some ⟨y.b, 0, none⟩), step6 k a b n pl pb] w (TnDo y u (Nt.doT t k a b n).1 (Nt.doT t k a b n).2 w)

set_option maxRecDepth 100000 in
set_option maxHeartbeats 4000000 in
theorem TDo_tell (y : TIds) (u : Value) (t : Nt.NT) (a b n pl pb : Int) (m : Nat) (w : World) (hr : Nt.NOk t m) (h : TnAt w y u t) : TDoSaid y u t 3 a b n pl pb w := by
  have e : Nt.doT t 3 a b n = Nt.tellT t a b := rfl
  unfold TDoSaid step6
  rw [e]
  have H := Lib.hid h; clear h; have HR := Lib.hid hr; clear hr
  clear e
  go_enter Tryz.func42, Tryz.ntmps42
  go_wp2_with fail
  refine (Ttell_any y u t a b m _ HR.out (H.out.keep0 ((Fr.refl _ _).alloc _))).mono ?_
  rintro e w1 hd
  have hd := TnDo.after ((Fr.refl _ w).alloc _) hd
  obtain ⟨v', rfl, ha, hf, hg⟩ := hd
  have HA := Lib.hid ha; clear ha; have HF := Lib.hid hf; clear hf; have HG := Lib.hid hg; clear hg
  go_wp2
  go_ret
  exact ⟨v', rfl, HA.out, HF.out, HG.out⟩
set_option maxRecDepth 100000 in
set_option maxHeartbeats 4000000 in
theorem TDo_else (y : TIds) (u : Value) (t : Nt.NT) (k a b n pl pb : Int) (w : World) (h1 : k ≠ 1) (h2 : k ≠ 2) (h3 : k ≠ 3) (h4 : k ≠ 4) (h5 : k ≠ 5) (h6 : k ≠ 6) (h7 : k ≠ 7) (h : TnAt w y u t) : TDoSaid y u t k a b n pl pb w := by
  have e : Nt.doT t k a b n = (t, 8) := by rw [Nt.doT, if_neg h1, if_neg h2, if_neg h3, if_neg h4, if_neg h5, if_neg h6]
  unfold TDoSaid step6
  rw [e]
  clear e
  have g1 : (k == 1) = false := by simpa using h1
  have g2 : (k == 2) = false := by simpa using h2
  have g3 : (k == 3) = false := by simpa using h3
  have g4 : (k == 4) = false := by simpa using h4
  have g5 : (k == 5) = false := by simpa using h5
  have g6 : (k == 6) = false := by simpa using h6
  have g7 : (k == 7) = false := by simpa using h7
  clear h1 h2 h3 h4 h5 h6 h7
  have H := Lib.hid h; clear h
  go_enter Tryz.func42, Tryz.ntmps42
  go_wp2
  go_ret
  exact TnDo.none (H.out.keep0 ((Fr.refl _ _).alloc _)) ((Fr.refl _ _).alloc _)
set_option maxRecDepth 100000 in
set_option maxHeartbeats 4000000 in
theorem TDo_link (y : TIds) (u : Value) (t : Nt.NT) (a b c pl pb : Int) (m : Nat) (w : World) (hr : Nt.NOk t m) (h : TnAt w y u t) : TDoSaid y u t 1 a b c pl pb w := by
  have e : Nt.doT t 1 a b c = Nt.linkT t a b c := rfl
  unfold TDoSaid step6
  rw [e]
  clear e
  by_cases hb : Nt.setBad a b c
  · have e : Nt.linkT t a b c = (t, 1) := by rw [Nt.linkT, if_pos hb]
    rw [e]
    clear e
    unfold Nt.setBad at hb
    have H := Lib.hid h; clear h; have HR := Lib.hid hr; clear hr; have HB := Lib.hid hb; clear hb
    go_enter Tryz.func42, Tryz.ntmps42
    go_wp2_with fail
    (refine still_tail 9 (by kernel_rfl) (by kernel_rfl) ?_; simp only [List.take_succ_cons, List.take_zero, List.drop_succ_cons, List.drop_zero]; (iterate 9 (refine wpStill_step (fun K hK => ?_); go_simp; (with_reducible refine hK _ ?_); clear hK K)); refine wpStill_nil ?_)
    go_wp2_with fail
    refine (MSet_no y.b a b c _ HB.out).mono ?_
    rintro e w' ⟨rfl, rfl⟩
    go_wp2
    go_ret
    exact TnDo.none (H.out.keep0 ((Fr.refl _ _).alloc _).drew) ((Fr.refl _ _).alloc _).drew
  · have e : Nt.linkT t a b c = (Nt.linkOk t a.toNat b.toNat c, 0) := by rw [Nt.linkT, if_neg hb]
    rw [e]
    clear e
    have hb := Classical.not_not.1 hb
    obtain ⟨p0, p1, q0, q1, hne, r0, r1⟩ := hb
    obtain ⟨p, rfl⟩ := Int.eq_ofNat_of_zero_le p0
    obtain ⟨q, rfl⟩ := Int.eq_ofNat_of_zero_le q0
    rw [Int.toNat_natCast, Int.toNat_natCast]
    have hp : p < 6 := by omega
    have hq : q < 6 := by omega
    have hpq : q ≠ p := by omega
    clear hne p0 q0
    have H := Lib.hid h; clear h; have HR := Lib.hid hr; clear hr; have HPQ := Lib.hid hpq; clear hpq
    go_enter Tryz.func42, Tryz.ntmps42
    go_wp2_with fail
    refine wp_name fun w1 hw1 => ?_
    have hfa : Fr NoB w w1 := by rw [hw1]; exact (Fr.refl _ _).alloc _
    have b1 : w1.cell? ⟨w.heap.size, 1, none⟩ = some (.int .i64 p) := by rw [hw1]; simp
    have b2 : w1.cell? ⟨w.heap.size, 2, none⟩ = some (.int .i64 q) := by rw [hw1]; simp
    have b3 : w1.cell? ⟨w.heap.size, 3, none⟩ = some (.int .i64 c) := by rw [hw1]; simp
    have h1 := (H.out.keep0 hfa).drewN 1
    have hbn : ∀ i, FtT y u i → ¬ w.heap.size = i := fun i hi e => by have := H.out.lt hi; omega
    have hfa : Fr NoB w w1.drew := hfa.drew
    clear hw1 H
    generalize w.heap.size = pz at *
    have H := Lib.hid h1; clear h1; have HF := Lib.hid hfa; clear hfa; have HBN := Lib.hid hbn; clear hbn
    (refine still_tail 9 (by kernel_rfl) (by kernel_rfl) ?_; simp only [List.take_succ_cons, List.take_zero, List.drop_succ_cons, List.drop_zero]; (iterate 9 (refine wpStill_step (fun K hK => ?_); go_simp; (with_reducible refine hK _ ?_); clear hK K)); refine wpStill_nil ?_)
    have hbb1 : w1.drew.cell? ⟨pz, 1, none⟩ = some (.int .i64 p) := b1
    have hbb2 : w1.drew.cell? ⟨pz, 2, none⟩ = some (.int .i64 q) := b2
    have hbb3 : w1.drew.cell? ⟨pz, 3, none⟩ = some (.int .i64 c) := b3
    have hT : TnAt w1.drew y u t := H.out
    generalize w1.drew = w2 at *
    clear b1 b2 b3 H
    have H := Lib.hid hT; clear hT
    go_wp2_with fail
    refine (MSet_at y.b p q c (t.C p q) (t.C q p) _ hp hq (fun e => HPQ.out e.symm) r0 r1 (H.out.cM hp hq) (H.out.cM hq hp) (H.out.fz _) (H.out.fz _)).mono ?_
    rintro e w3 ⟨rfl, hw3⟩
    have h3 : TnAt w3 y u { t with C := setC t.C p q c } := by rw [hw3]; exact H.out.setM hp hq c
    have hf3 : Fr (OneB y.b) w2 w3 := by rw [hw3]; exact ((Fr.refl _ _).set1 _ _).set1 _ _
    have hne0 : ¬ pz = y.b := HBN.out y.b (.inl rfl)
    have s1 := cell_fr hf3 hbb1 hne0
    have s2 := cell_fr hf3 hbb2 hne0
    have s3 := cell_fr hf3 hbb3 hne0
    have hf3' : Fr (FtT y u) w w3 := (HF.out.mono (fun _ _ h => h.elim)).trans (hf3.mono (fun i _ h => .inl h))
    clear hw3 H HF hf3 hbb1 hbb2 hbb3 hne0
    have d1 := h3.cN hp
    have hpi : (p : Int) < 6 := by omega
    have hqi : (q : Int) < 6 := by omega
    have H := Lib.hid h3; clear h3; have HF := Lib.hid hf3'; clear hf3'
    go_wp2_with fail
    (refine still_tail 11 (by kernel_rfl) (by kernel_rfl) ?_; simp only [List.take_succ_cons, List.take_zero, List.drop_succ_cons, List.drop_zero]; (iterate 11 (refine wpStill_step (fun K hK => ?_); go_simp; (with_reducible refine hK _ ?_); clear hK K)); refine wpStill_nil ?_)
    go_wp2_with fail
    refine (MLink_any (y.N p) q c (t.N p) _ (HR.out.run p hp).ok (by exact H.out.node p hp)).mono ?_
    rintro e w4 ⟨rfl, hn, hf⟩
    have h4 := TnAt.setN (H.out.drewN 1) hp hn hf
    have hf4 : Fr (FtT y u) w w4 := HF.out.drew.trans (hf.mono (fun i _ h => .inr (.inl ⟨p, hp, h⟩)))
    have hq4 : NAt w4 (y.N q) 151 (t.N q) := by
      have h5 : NAt w4 (y.N q) 151 (Nt.upN t.N p (Nd.linkC (t.N p) q c).1 q) := h4.node q hq
      rw [Nt.upN_other _ _ _ _ HPQ.out] at h5
      exact h5
    have hne1 : ¬ pz = y.N p := HBN.out _ (.inr (.inl ⟨p, hp, rfl⟩))
    have s1 := cell_fr hf s1 hne1
    have s2 := cell_fr hf s2 hne1
    have s3 := cell_fr hf s3 hne1
    clear d1 hn hf H HF hne1
    have d2 := h4.cN hq
    have H := Lib.hid h4; clear h4; have HF := Lib.hid hf4; clear hf4; have HQ := Lib.hid hq4; clear hq4
    go_wp2_with fail
    (refine still_tail 11 (by kernel_rfl) (by kernel_rfl) ?_; simp only [List.take_succ_cons, List.take_zero, List.drop_succ_cons, List.drop_zero]; (iterate 11 (refine wpStill_step (fun K hK => ?_); go_simp; (with_reducible refine hK _ ?_); clear hK K)); refine wpStill_nil ?_)
    go_wp2_with fail
    refine (MLink_any (y.N q) p c (t.N q) _ (HR.out.run q hq).ok (by exact HQ.out)).mono ?_
    rintro e w5 ⟨rfl, hn, hf⟩
    have h5 := TnAt.setN (H.out.drewN 1) hq hn hf
    have hf5 : Fr (FtT y u) w w5 := HF.out.drew.trans (hf.mono (fun i _ h => .inr (.inl ⟨q, hq, h⟩)))
    clear d2 hn hf H HF
    have H := Lib.hid h5; clear h5; have HF := Lib.hid hf5; clear hf5
    go_wp2
    go_ret
    exact TnDo.none H.out HF.out
end Go.Proofs.YteedndapbfihaaaGreat
/- Walks over the reference's town: Do: tick. -/
namespace Go.Proofs.YteedndapbfihaaaGreat
open Go.RowKit Go.Deep

def restL (C : Nat → Nat → Int) (a k : Nat) : List Nat := ((List.range 6).drop k).filter (fun b => decide (0 < C a b))
theorem restL_0 (C : Nat → Nat → Int) (a : Nat) : restL C a 0 = ofL C a 6 := rfl
theorem restL_6 (C : Nat → Nat → Int) (a : Nat) : restL C a 6 = [] := rfl
theorem range_drop {k : Nat} (h : k < 6) : (List.range 6).drop k = k :: (List.range 6).drop (k + 1) := by
  match k, h with
  | 0, _ => rfl
  | 1, _ => rfl
  | 2, _ => rfl
  | 3, _ => rfl
  | 4, _ => rfl
  | 5, _ => rfl
theorem restL_hit {C : Nat → Nat → Int} {a k : Nat} (h : k < 6) (hc : 0 < C a k) : restL C a k = k :: restL C a (k + 1) := by
  unfold restL; rw [range_drop h, List.filter_cons_of_pos (by simpa using hc)]
theorem restL_miss {C : Nat → Nat → Int} {a k : Nat} (h : k < 6) (hc : ¬ 0 < C a k) : restL C a k = restL C a (k + 1) := by
  unfold restL; rw [range_drop h, List.filter_cons_of_neg (by simpa using hc)]
theorem Nt.tellT_C (t : Nt.NT) (a b : Int) : (Nt.tellT t a b).1.C = t.C := by unfold Nt.tellT; split; rfl; split; rfl; split <;> rfl
def TTRel (y : TIds) (u0 : Value) (C : Nat → Nat → Int) (p pz : Nat) (r : Nt.NT × Int) (m : Nat) (w : World) (g : Nat) (i : Value) (wr : World) : Prop :=
  ∃ (k : Nat) (t : Nt.NT) (u : Value), k ≤ 6 ∧ g = 6 - k ∧ i = .int .i64 k ∧ Nt.NOk t m ∧ t.C = C ∧ Nt.tellsT t p (restL C p k) = r ∧ TnAt wr y u t ∧ Fr (FtT y u0) w wr ∧ (∀ g, u.ownBlock = some g → u0.ownBlock = some g ∨ w.heap.size ≤ g) ∧ wr.cell? ⟨pz, 1, none⟩ = some (.int .i64 p) ∧ (∀ i, FtT y u i → ¬ pz = i)
set_option maxRecDepth 100000 in
set_option maxHeartbeats 4000000 in
theorem TDo_tick (y : TIds) (u : Value) (t : Nt.NT) (a b n pl pb : Int) (m : Nat) (w : World) (hr : Nt.NOk t m) (hm : m ≤ 1000) (h : TnAt w y u t) : TDoSaid y u t 2 a b n pl pb w := by
  have e : Nt.doT t 2 a b n = Nt.tickT t a := rfl
  unfold TDoSaid step6
  rw [e]
  clear e
  by_cases ha : Nt.isN a
  · obtain ⟨p, rfl⟩ := Int.eq_ofNat_of_zero_le ha.1
    have hp : p < 6 := by have := ha.2; omega
    have e : Nt.tickT t p = Nt.tellsT (Nt.tickOk t p) p (restL t.C p 0) := by rw [Nt.tickT, if_neg (fun h => h ha), Int.toNat_natCast, restL_0]
    have hok := hr.tickOk hp
    rw [e]
    clear e ha
    have hpi : (p : Int) < 6 := by omega
    have H := Lib.hid h; clear h; have HR := Lib.hid hr; clear hr; have HOK := Lib.hid hok; clear hok
    go_enter Tryz.func42, Tryz.ntmps42
    go_wp2_with fail
    refine (RNode_yes _ _ (by omega) (by omega)).mono ?_; rintro e w' ⟨rfl, rfl⟩
    go_wp2_with fail
    refine wp_name fun w1 hw1 => ?_
    have hfa : Fr NoB w w1 := by rw [hw1]; exact (Fr.refl _ _).alloc _
    have b1 : w1.cell? ⟨w.heap.size, 1, none⟩ = some (.int .i64 p) := by rw [hw1]; simp
    have h1 := H.out.keep0 hfa
    have c1 := h1.cN hp
    have hbn : ∀ i, FtT y u i → ¬ w.heap.size = i := fun i hi e => by have := H.out.lt hi; omega
    clear hw1 H
    generalize w.heap.size = pz at *
    have H := Lib.hid h1; clear h1; have HF := Lib.hid hfa; clear hfa; have HBN := Lib.hid hbn; clear hbn
    (refine still_tail 7 (by kernel_rfl) (by kernel_rfl) ?_; simp only [List.take_succ_cons, List.take_zero, List.drop_succ_cons, List.drop_zero]; (iterate 7 (refine wpStill_step (fun K hK => ?_); go_simp; (with_reducible refine hK _ ?_); clear hK K)); refine wpStill_nil ?_)
    go_wp2_with fail
    refine (MTick_any (y.N p) (t.N p) _ (HR.out.run p hp).ok.me (HR.out.run p hp).own (HR.out.run p hp).lo (by have := (HR.out.run p hp).hi; omega) (by exact H.out.node p hp)).mono ?_
    rintro e w2 ⟨rfl, hn, hf⟩
    have h2 : TnAt w2 y u (Nt.tickOk t p) := TnAt.setN (H.out.drewN 1) hp hn hf
    have hf2 : Fr (FtT y u) w w2 := (HF.out.drew.mono (fun _ _ h => h.elim)).trans (hf.mono (fun i _ h => .inr (.inl ⟨p, hp, h⟩)))
    have hz1 : w.heap.size ≤ w2.heap.size := hf2.size
    have b1 := cell_fr hf b1 (HBN.out _ (.inr (.inl ⟨p, hp, rfl⟩)))
    clear c1 hn hf H HF
    have H := Lib.hid h2; clear h2; have HF := Lib.hid hf2; clear hf2; have HB1 := Lib.hid b1; clear b1
    go_wp2
    go_loopg [6] 6 (fun g i wr => TTRel y u t.C p pz (Nt.tellsT (Nt.tickOk t p) p (restL t.C p 0)) (m + 1) w g i wr)
    case atStart => exact ⟨0, _, u, by omega, by omega, rfl, HOK.out, rfl, rfl, H.out, HF.out, fun g hg => .inl hg, HB1.out, HBN.out⟩
    case round =>
      clear H HF HOK HR HB1 HBN
      obtain ⟨k, s, v, hk, hgk, rfl, hok, hC, hres, h1, hf, hg, b1, hbn⟩ := hrel
      have HGK := Lib.hid hgk; clear hgk
      have HOK := Lib.hid hok; clear hok; have HC := Lib.hid hC; clear hC; have HRES := Lib.hid hres; clear hres; have H := Lib.hid h1; clear h1; have HF := Lib.hid hf; clear hf; have HG := Lib.hid hg; clear hg; have HBN := Lib.hid hbn; clear hbn
      by_cases hk6 : k < 6
      · have hkb : decide ((k : Int) < 6) = true := by simp; omega
        have hki : (k : Int) < 6 := by omega
        have cM := H.out.cM hp hk6
        rw [HC.out] at cM
        by_cases hc : 0 < t.C p k
        · have hcb : decide (0 < t.C p k) = true := by simpa using hc
          have hr2 := HRES.out
          rw [restL_hit hk6 hc, Nt.tellsT] at hr2
          clear hc HRES
          have HR2 := Lib.hid hr2; clear hr2
          go_wp2_with fail
          go_quiet (fail)
          go_wp2_with fail
          have h3 := H.out.drewN nq
          have b1 : (wr.drewN nq).cell? ⟨pz, 1, none⟩ = some (.int .i64 p) := b1
          have hf3 := HF.out.drewN nq
          clear H HF cM
          generalize wr.drewN nq = w3 at *
          have H := Lib.hid h3; clear h3; have HF := Lib.hid hf3; clear hf3
          refine (Ttell_any y v s p k (m + 1) _ HOK.out H.out).mono ?_
          rintro e w4 ⟨v', rfl, h2, hf, hg⟩
          have hok2 := HOK.out.tellT p k
          have hC2 : (Nt.tellT s p k).1.C = t.C := by rw [Nt.tellT_C]; exact HC.out
          have hf2 := HF.out.growT HG.out hf
          have hg2 := grow_trans HG.out hg HF.out.size
          have hpz := World.block_lt_of_cell? w3 _ b1
          have b1 := cell_fr hf b1 (fun e => HBN.out _ e rfl)
          have hbn2 : ∀ i, FtT y v' i → ¬ pz = i := fun i hi => by
            rcases hi with hi | hi | hi
            · exact HBN.out i (.inl hi)
            · exact HBN.out i (.inr (.inl hi))
            · rcases hg i hi with h | h
              · exact HBN.out i (.inr (.inr h))
              · intro e; simp only at hpz; omega
          clear hf hg H HF HG HOK HC HBN hpz
          by_cases hc : (Nt.tellT s p k).2 = 0
          · have hr3 := HR2.out
            rw [if_pos hc] at hr3
            rw [hc]
            clear hc HR2
            have HOK := Lib.hid hok2; clear hok2; have HC := Lib.hid hC2; clear hC2; have HF := Lib.hid hf2; clear hf2; have HG := Lib.hid hg2; clear hg2; have H := Lib.hid h2; clear h2; have HR3 := Lib.hid hr3; clear hr3; have HBN := Lib.hid hbn2; clear hbn2
            go_wp2
            go_roundg (6 - (k + 1))
            case rel => exact ⟨k + 1, _, v', by omega, rfl, by go_num, HOK.out, HC.out, HR3.out, H.out, HF.out, HG.out, b1, HBN.out⟩
            case measure => have := HGK.out; omega
          · have hr3 := HR2.out
            rw [if_neg hc] at hr3
            have hcb2 : ((Nt.tellT s p k).2 != 0) = true := by simp [hc]
            clear hc HR2
            have HOK := Lib.hid hok2; clear hok2; have HC := Lib.hid hC2; clear hC2; have HF := Lib.hid hf2; clear hf2; have HG := Lib.hid hg2; clear hg2; have H := Lib.hid h2; clear h2; have HR3 := Lib.hid hr3; clear hr3; have HBN := Lib.hid hbn2; clear hbn2
            go_wp2
            go_ret
            rw [← HR3.out]
            exact ⟨_, rfl, H.out, HF.out, HG.out⟩
        · have hcb : decide (0 < t.C p k) = false := by simpa using hc
          have hr2 := HRES.out
          rw [restL_miss hk6 hc] at hr2
          clear hc HRES
          have HR2 := Lib.hid hr2; clear hr2
          go_wp2_with fail
          go_quiet (fail)
          go_wp2
          go_roundg (6 - (k + 1))
          case rel => exact ⟨k + 1, s, v, by omega, rfl, by go_num, HOK.out, HC.out, HR2.out, H.out.drewN _, HF.out.drewN _, HG.out, b1, HBN.out⟩
          case measure => have := HGK.out; omega
      · obtain rfl : k = 6 := by omega
        have hr2 := HRES.out
        rw [restL_6, Nt.tellsT] at hr2
        clear HRES
        have HR2 := Lib.hid hr2; clear hr2
        go_wp2
        go_ret
        rw [← HR2.out]
        exact ⟨_, rfl, H.out, HF.out, HG.out⟩
  · have e : Nt.tickT t a = (t, 1) := by rw [Nt.tickT, if_pos ha]
    rw [e]
    clear e
    have H := Lib.hid h; clear h; have HR := Lib.hid hr; clear hr; have HA := Lib.hid ha; clear ha
    go_enter Tryz.func42, Tryz.ntmps42
    go_wp2_with fail
    refine (RNode_no _ _ HA.out).mono ?_; rintro e w' ⟨rfl, rfl⟩
    go_wp2
    go_ret
    exact TnDo.none (H.out.keep0 ((Fr.refl _ _).alloc _)) ((Fr.refl _ _).alloc _)
end Go.Proofs.YteedndapbfihaaaGreat
