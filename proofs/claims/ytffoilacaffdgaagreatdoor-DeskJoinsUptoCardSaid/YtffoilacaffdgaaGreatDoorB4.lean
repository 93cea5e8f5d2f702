/- Walks over package net: Do. -/
import Derived.Test.YtffoilacaffdgaaGreatDoorB3
import Derived.Test.YtffoilacaffdgaaGreatDoorB1
namespace Go.Proofs.YtffoilacaffdgaaGreatDoor
open Go.RowKit Go.Deep

theorem NtDo.after {x : Ids} {v : Value} {t : Nt.NT} {c : Int} {w w0 w' : World} {e : Ending} (hf : Fr NoB w w0) (h : NtDo x v t c w0 e w') : NtDo x v t c w e w' := by
  obtain ⟨v', he, ha, hf', hg⟩ := h
  exact ⟨v', he, ha, (hf.mono (fun _ _ h => h.elim)).trans hf', fun g hg' => by rcases hg g hg' with h | h; exact .inl h; exact .inr (by have := hf.size; omega)⟩
def step6 (k a b n pl pb : Int) : Value := .agg #[.int .i64 k, .int .i64 a, .int .i64 b, .int .i64 n, .int .i64 pl, .int .i64 pb]
def DoSaid (x : Ids) (v : Value) (t : Nt.NT) (k a b n pl pb : Int) (w : World) : Prop :=
  Calls Tryz.prog 105 #[.pointer (some ⟨x.b, 0, none⟩), step6 k a b n pl pb] w (NtDo x v (Nt.doT t k a b n).1 (Nt.doT t k a b n).2 w)

set_option maxRecDepth 100000 in
set_option maxHeartbeats 4000000 in
theorem Do_link (x : Ids) (v : Value) (t : Nt.NT) (a b n pl pb : Int) (m : Nat) (w : World) (hr : Nt.NOk t m) (h : NtAt w x v t) : DoSaid x v t 1 a b n pl pb w := by
  have e : Nt.doT t 1 a b n = Nt.linkT t a b n := rfl
  unfold DoSaid step6
  rw [e]
  have H := Lib.hid h; clear h; have HR := Lib.hid hr; clear hr
  clear e
  go_enter Tryz.func105, Tryz.ntmps105
  go_wp2_with fail
  refine (Nlink_any x v t a b n m _ HR.out (H.out.keep0 ((Fr.refl _ _).alloc _))).mono ?_
  rintro e w1 hd
  have hd := NtDo.after ((Fr.refl _ w).alloc _) hd
  obtain ⟨v', rfl, ha, hf, hg⟩ := hd
  have HA := Lib.hid ha; clear ha; have HF := Lib.hid hf; clear hf; have HG := Lib.hid hg; clear hg
  go_wp2
  go_ret
  exact ⟨v', rfl, HA.out, HF.out, HG.out⟩
set_option maxRecDepth 100000 in
set_option maxHeartbeats 4000000 in
theorem Do_tick (x : Ids) (v : Value) (t : Nt.NT) (a b n pl pb : Int) (m : Nat) (w : World) (hr : Nt.NOk t m) (hm : m ≤ 1000) (h : NtAt w x v t) : DoSaid x v t 2 a b n pl pb w := by
  have e : Nt.doT t 2 a b n = Nt.tickT t a := rfl
  unfold DoSaid step6
  rw [e]
  have H := Lib.hid h; clear h; have HR := Lib.hid hr; clear hr; have HM := Lib.hid hm; clear hm
  clear e
  go_enter Tryz.func105, Tryz.ntmps105
  go_wp2_with fail
  refine (Ntick_any x v t a m _ HR.out HM.out (H.out.keep0 ((Fr.refl _ _).alloc _))).mono ?_
  rintro e w1 hd
  have hd := NtDo.after ((Fr.refl _ w).alloc _) hd
  obtain ⟨v', rfl, ha, hf, hg⟩ := hd
  have HA := Lib.hid ha; clear ha; have HF := Lib.hid hf; clear hf; have HG := Lib.hid hg; clear hg
  go_wp2
  go_ret
  exact ⟨v', rfl, HA.out, HF.out, HG.out⟩
set_option maxRecDepth 100000 in
set_option maxHeartbeats 4000000 in
theorem Do_tell (x : Ids) (v : Value) (t : Nt.NT) (a b n pl pb : Int) (m : Nat) (w : World) (hr : Nt.NOk t m) (h : NtAt w x v t) : DoSaid x v t 3 a b n pl pb w := by
  have e : Nt.doT t 3 a b n = Nt.tellT t a b := rfl
  unfold DoSaid step6
  rw [e]
  have H := Lib.hid h; clear h; have HR := Lib.hid hr; clear hr
  clear e
  go_enter Tryz.func105, Tryz.ntmps105
  go_wp2_with fail
  refine (Ntell_any x v t a b m _ HR.out (H.out.keep0 ((Fr.refl _ _).alloc _))).mono ?_
  rintro e w1 hd
  have hd := NtDo.after ((Fr.refl _ w).alloc _) hd
  obtain ⟨v', rfl, ha, hf, hg⟩ := hd
  have HA := Lib.hid ha; clear ha; have HF := Lib.hid hf; clear hf; have HG := Lib.hid hg; clear hg
  go_wp2
  go_ret
  exact ⟨v', rfl, HA.out, HF.out, HG.out⟩
set_option maxRecDepth 100000 in
set_option maxHeartbeats 4000000 in
theorem Do_lose (x : Ids) (v : Value) (t : Nt.NT) (a b n pl pb : Int) (m : Nat) (w : World) (hr : Nt.NOk t m) (h : NtAt w x v t) : DoSaid x v t 5 a b n pl pb w := by
  have e : Nt.doT t 5 a b n = Nt.loseT t n := rfl
  unfold DoSaid step6
  rw [e]
  clear e
  by_cases ho : Nt.out t n
  · have e : Nt.loseT t n = (t, 6) := by rw [Nt.loseT, if_pos ho]
    rw [e]
    clear e
    have H := Lib.hid h; clear h; have HR := Lib.hid hr; clear hr; have HO := Lib.hid ho; clear ho
    go_enter Tryz.func105, Tryz.ntmps105
    go_wp2_with fail
    refine (take_no x v t n _ HO.out (H.out.keep0 ((Fr.refl _ _).alloc _))).mono ?_
    rintro e w1 ⟨rfl, hf⟩
    have hf := ((Fr.refl NoB w).alloc _).trans hf
    unfold nw5
    have HF := Lib.hid hf; clear hf
    go_wp2
    go_ret
    exact NtDo.none (H.out.keep0 (HF.out.alloc _)) ((HF.out.alloc _).mono (fun _ _ h => h.elim))
  · have e : Nt.loseT t n = (Nt.lost t n.toNat, 0) := by rw [Nt.loseT, if_neg ho]
    rw [e]
    clear e
    have hk := Nt.out_no ho
    obtain ⟨k, rfl⟩ := Int.eq_ofNat_of_zero_le (a := n) (by unfold Nt.out at ho; omega)
    rw [Int.toNat_natCast] at hk ⊢
    clear ho
    have H := Lib.hid h; clear h; have HR := Lib.hid hr; clear hr; have HK := Lib.hid hk; clear hk
    go_enter Tryz.func105, Tryz.ntmps105
    go_wp2_with fail
    refine (take_yes x v t k _ HK.out HR.out.len (H.out.keep0 ((Fr.refl _ _).alloc _))).mono ?_
    rintro e w1 ⟨v', rfl, ha, hf, hg⟩
    have hf : Fr (Ft x v) w w1 := ((Fr.refl _ w).alloc _).trans hf
    unfold nw5
    have HA := Lib.hid ha; clear ha; have HF := Lib.hid hf; clear hf; have HG := Lib.hid hg; clear hg
    go_wp2
    go_ret
    exact ⟨v', rfl, HA.out.keep0 ((Fr.refl _ _).alloc _), HF.out.alloc _, fun g hg => .inl (HG.out g hg)⟩
set_option maxRecDepth 100000 in
set_option maxHeartbeats 4000000 in
theorem Do_hear (x : Ids) (v : Value) (t : Nt.NT) (a b n pl pb : Int) (m : Nat) (w : World) (hr : Nt.NOk t m) (h : NtAt w x v t) : DoSaid x v t 4 a b n pl pb w := by
  have e : Nt.doT t 4 a b n = Nt.hearT t n := rfl
  unfold DoSaid step6
  rw [e]
  clear e
  by_cases ho : Nt.out t n
  · have e : Nt.hearT t n = (t, 6) := by rw [Nt.hearT, if_pos ho]
    rw [e]
    clear e
    have H := Lib.hid h; clear h; have HR := Lib.hid hr; clear hr; have HO := Lib.hid ho; clear ho
    go_enter Tryz.func105, Tryz.ntmps105
    go_wp2_with fail
    refine (take_no x v t n _ HO.out (H.out.keep0 ((Fr.refl _ _).alloc _))).mono ?_
    rintro e w1 ⟨rfl, hf⟩
    have hf := ((Fr.refl NoB w).alloc _).trans hf
    unfold nw5
    have HF := Lib.hid hf; clear hf
    go_wp2
    go_ret
    exact NtDo.none (H.out.keep0 (HF.out.alloc _)) ((HF.out.alloc _).mono (fun _ _ h => h.elim))
  · have e : Nt.hearT t n = Nt.heard (Nt.lost t n.toNat) (Nt.nwAt t n.toNat) := by rw [Nt.hearT, if_neg ho]
    rw [e]
    clear e
    have hk := Nt.out_no ho
    obtain ⟨k, rfl⟩ := Int.eq_ofNat_of_zero_le (a := n) (by unfold Nt.out at ho; omega)
    rw [Int.toNat_natCast] at hk ⊢
    clear ho
    have hgn := hr.g _ (Nt.nwAt_mem hk)
    have H := Lib.hid h; clear h; have HR := Lib.hid hr; clear hr; have HK := Lib.hid hk; clear hk
    go_enter Tryz.func105, Tryz.ntmps105
    go_wp2_with fail
    refine (take_yes x v t k _ HK.out HR.out.len (H.out.keep0 ((Fr.refl _ _).alloc _))).mono ?_
    rintro e w1 ⟨v', rfl, ha, hf, hg⟩
    have hf : Fr (Ft x v) w w1 := ((Fr.refl _ w).alloc _).trans hf
    have hr2 := HR.out.lost k
    generalize Nt.nwAt t k = y at *
    obtain ⟨y1, y2, y3, y4, y5⟩ := y
    unfold nw5
    have hgn : Nt.isN y2 := hgn
    obtain ⟨g, rfl⟩ := Int.eq_ofNat_of_zero_le hgn.1
    have hg6 : g < 6 := by have := hgn.2; omega
    have hgi : (g : Int) < 6 := hgn.2
    clear hgn HR
    have HA := Lib.hid ha; clear ha; have HF := Lib.hid hf; clear hf; have HG := Lib.hid hg; clear hg; have HR := Lib.hid hr2; clear hr2
    go_upto_region 12 with fail
    refine wp_name fun w2 hw2 => ?_
    have hfa : Fr NoB w1 w2 := by rw [hw2]; exact (Fr.refl _ _).alloc _
    have b0 : w2.cell? ⟨w1.heap.size, 0, none⟩ = some (.int .i64 y1) := by rw [hw2]; simp
    have b1 : w2.cell? ⟨w1.heap.size, 1, none⟩ = some (.int .i64 g) := by rw [hw2]; simp
    have b2 : w2.cell? ⟨w1.heap.size, 2, none⟩ = some (.int .i64 y3) := by rw [hw2]; simp
    have b3 : w2.cell? ⟨w1.heap.size, 3, none⟩ = some (.int .i64 y4) := by rw [hw2]; simp
    have b4 : w2.cell? ⟨w1.heap.size, 4, none⟩ = some (.int .i64 y5) := by rw [hw2]; simp
    have h2 := HA.out.keep0 hfa
    have hf2 := HF.out.trans (hfa.mono (fun _ _ h => h.elim))
    have c1 := h2.cN hg6
    clear hw2 hfa HA HF
    generalize w1.heap.size = p at *
    have H2 := Lib.hid h2; clear h2; have HF := Lib.hid hf2; clear hf2
    (refine still_tail 8 (by kernel_rfl) (by kernel_rfl) ?_; simp only [List.take_succ_cons, List.take_zero, List.drop_succ_cons, List.drop_zero]; (iterate 8 (refine wpStill_step (fun K hK => ?_); go_simp; (with_reducible refine hK _ ?_); clear hK K)); refine wpStill_nil ?_)
    go_wp2_with fail
    refine (Hear_any (x.N g) y1 g y3 y4 y5 ((Nt.lost t k).N g) _ (HR.out.run g hg6).ok (by exact H2.out.node g hg6)).mono ?_
    rintro e w3 ⟨rfl, hn, hf⟩
    have h3 := NtAt.setN (w := w2.drew) ⟨H2.out.net, H2.out.links, H2.out.node, H2.out.news, H2.out.inj⟩ hg6 hn hf
    have hf3 : Fr (Ft x v) w w3 := HF.out.drew.trans (hf.mono (fun i _ h => .inr (.inr (.inl ⟨g, hg6, h⟩))))
    clear hn hf
    have H3 := Lib.hid h3; clear h3; have HF3 := Lib.hid hf3; clear hf3
    go_wp2
    go_ret
    refine ⟨v', ?_, ?_, HF3.out, fun g' hg' => .inl (HG.out g' hg')⟩
    · simp only [Nt.heard, Int.toNat_natCast]; rfl
    · have := H3.out
      simp only [Nt.heard, Int.toNat_natCast]
      exact this
set_option maxRecDepth 100000 in
set_option maxHeartbeats 4000000 in
theorem Do_dbl (x : Ids) (v : Value) (t : Nt.NT) (a b n pl pb : Int) (m : Nat) (w : World) (hr : Nt.NOk t m) (h : NtAt w x v t) : DoSaid x v t 6 a b n pl pb w := by
  have e : Nt.doT t 6 a b n = Nt.dblT t n := rfl
  unfold DoSaid step6
  rw [e]
  clear e
  have hf1 : ∀ o, Fr NoB w (w.alloc o) := fun o => (Fr.refl _ _).alloc _
  have hb := h.lt (.inl rfl)
  have c7 := h.c7
  obtain ⟨av, cv, rfl, j⟩ := ownsRow_rd h.news
  clear j
  by_cases ho : Nt.out t n
  · have e : Nt.dblT t n = (t, 6) := by rw [Nt.dblT, if_pos ho]
    rw [e]
    clear e
    unfold Nt.out at ho
    by_cases h0 : n < 0
    · have hb0 : decide (n < 0) = true := by simpa using h0
      clear ho h0
      have H := Lib.hid h; clear h; have HR := Lib.hid hr; clear hr; have HF1 := Lib.hid hf1; clear hf1
      go_enter Tryz.func105, Tryz.ntmps105
      go_wp2_with fail
      go_quiet (fail)
      go_wp2
      go_ret
      exact NtDo.none ((H.out.keep0 (HF1.out _)).drewN _) (((HF1.out _).mono (fun _ _ h => h.elim)).drewN _)
    · have hb0 : decide (n < 0) = false := by simpa using h0
      have hb1 : decide ((t.news.length : Int) ≤ n) = true := by simp; omega
      clear ho h0
      have H := Lib.hid h; clear h; have HR := Lib.hid hr; clear hr; have HF1 := Lib.hid hf1; clear hf1
      go_enter Tryz.func105, Tryz.ntmps105
      go_wp2_with fail
      go_quiet (fail)
      go_wp2
      go_ret
      exact NtDo.none ((H.out.keep0 (HF1.out _)).drewN _) (((HF1.out _).mono (fun _ _ h => h.elim)).drewN _)
  · have hk := Nt.out_no ho
    obtain ⟨k, rfl⟩ := Int.eq_ofNat_of_zero_le (a := n) (by unfold Nt.out at ho; omega)
    rw [Int.toNat_natCast] at hk
    have hb0 : decide ((k : Int) < 0) = false := by simp
    have hb1 : decide ((t.news.length : Int) ≤ k) = false := by simp; omega
    by_cases hl : t.news.length = 40
    · have e : Nt.dblT t k = (t, 9) := by rw [Nt.dblT, if_neg ho, if_pos hl]
      rw [e]
      have hlb : ((t.news.length : Int) == 40) = true := by simp; omega
      clear e ho hl
      have H := Lib.hid h; clear h; have HR := Lib.hid hr; clear hr; have HF1 := Lib.hid hf1; clear hf1
      go_enter Tryz.func105, Tryz.ntmps105
      go_wp2_with fail
      go_quiet (fail)
      go_wp2
      go_ret
      exact NtDo.none ((H.out.keep0 (HF1.out _)).drewN _) (((HF1.out _).mono (fun _ _ h => h.elim)).drewN _)
    · have e : Nt.dblT t k = ({ t with news := t.news ++ [Nt.nwAt t k] }, 0) := by rw [Nt.dblT, if_neg ho, if_neg hl, Int.toNat_natCast]
      rw [e]
      have hlb : ((t.news.length : Int) == 40) = false := by simp; omega
      have hl40 : t.news.length < 40 := by have := hr.len; omega
      clear e ho hl
      obtain ⟨g, rfl, d0, d1, d2, d3, d4⟩ := news_cells h.news hk
      have hki : (k : Int) < (t.news.length : Int) := by omega
      have hnw : nwGet t.news k = Nt.nwAt t k := rfl
      rw [hnw] at d0 d1 d2 d3 d4
      have hob : (Value.slice (some ⟨g, 0, none⟩) t.news.length cv).ownBlock = some g := rfl
      have hgl := h.lt (.inr (.inr (.inr hob)))
      clear hnw hob
      have H := Lib.hid h; clear h; have HR := Lib.hid hr; clear hr; have HF1 := Lib.hid hf1; clear hf1; have HL := Lib.hid hl40; clear hl40
      go_enter Tryz.func105, Tryz.ntmps105
      go_wp2_with fail
      go_quiet (fail)
      go_wp2_with fail
      refine wp_name fun w1 hw1 => ?_
      have hfa : Fr NoB w w1 := by rw [hw1]; exact (HF1.out _).drewN _
      have e3 : w1.cell? ⟨w.heap.size, 3, none⟩ = some (.int .i64 k) := by rw [hw1]; simp
      have h1 := H.out.keep0 hfa
      have c7 := cell_fr hfa c7 (fun h => h)
      have d0 := cell_fr hfa d0 (fun h => h)
      have d1 := cell_fr hfa d1 (fun h => h)
      have d2 := cell_fr hfa d2 (fun h => h)
      have d3 := cell_fr hfa d3 (fun h => h)
      have d4 := cell_fr hfa d4 (fun h => h)
      have hz := hfa.size
      clear hw1 hgl hb H HF1
      have H := Lib.hid h1; clear h1; have HF := Lib.hid hfa; clear hfa; have HZ := Lib.hid hz; clear hz
      generalize Nt.nwAt t k = y at *
      obtain ⟨y1, y2, y3, y4, y5⟩ := y
      dsimp only at d0 d1 d2 d3 d4
      have hbl : x.b < w1.heap.size := H.out.lt (.inl rfl)
      have key : ∀ (o : Obj) (w2 : World), Fr (fun i => (Value.slice (some ⟨g, 0, none⟩) t.news.length cv).ownBlock = some i) ((w1.drew).alloc o) w2 → w2.cell? ⟨x.b, 7, none⟩ = some (.slice (some ⟨g, 0, none⟩) t.news.length cv) ∧ w2.frozen? ⟨x.b, 7, none⟩ = false ∧ ∀ (cap g' : Nat), (w2.ownsRow 0 98 5 (.slice (some ⟨g', 0, none⟩) (t.news.length + 1) cap) (t.news.length + 1) ((nwI t.news).map (Value.int .i64) ++ [.int .i64 y1, .int .i64 y2, .int .i64 y3, .int .i64 y4, .int .i64 y5])) → NtAt (w2.setCell ⟨x.b, 7, none⟩ (.slice (some ⟨g', 0, none⟩) (t.news.length + 1) cap)) x (.slice (some ⟨g', 0, none⟩) (t.news.length + 1) cap) { t with news := t.news ++ [(⟨y1, y2, y3, y4, y5⟩ : Nt.Nw)] } ∧ Fr (Ft x (.slice (some ⟨g, 0, none⟩) t.news.length cv)) w (w2.setCell ⟨x.b, 7, none⟩ (.slice (some ⟨g', 0, none⟩) (t.news.length + 1) cap)) := by
        intro o w2 hf
        have hf0 : Fr (fun i => (Value.slice (some ⟨g, 0, none⟩) t.news.length cv).ownBlock = some i) w1 w2 := ((Fr.refl _ w1).drew.alloc o).trans hf
        refine ⟨cell_fr hf0 c7 H.out.bv, World.rowIs.frozen (hf0.row H.out.net H.out.bv) 7, fun cap g' h2 => ⟨?_, ?_⟩⟩
        · have hv2 : SlN w2 0 (.slice (some ⟨g', 0, none⟩) (t.news.length + 1) cap) (t.news ++ [(⟨y1, y2, y3, y4, y5⟩ : Nt.Nw)]).length (nwI (t.news ++ [(⟨y1, y2, y3, y4, y5⟩ : Nt.Nw)])) := by
            rw [nwI_app, List.length_append]
            unfold SlN
            rw [List.map_append]
            exact h2
          exact H.out.setV hv2 hf0
        · exact ((HF.out.mono (fun _ _ h => h.elim)).trans (hf0.mono (fun _ _ h => .inr (.inr (.inr h))))).setCell (p := ⟨x.b, 7, none⟩) (.inl (.inl rfl)) _
      have KEY := Lib.hid key; clear key
      go_region_law (refine step_lies (by rfl) (.tmp 91) (.tmp 100) 67 98 5 40 (.agg #[.int .i64 0, .int .i64 0, .int .i64 0, .int .i64 0, .int .i64 0]) (by rfl) Tryz.underlying67 Tryz.info98 rfl (by omega) 0 (.slice (some ⟨g, 0, none⟩) t.news.length cv) t.news.length _ (by rfl) (World.ownsRow.alloc (World.ownsRow.drew H.out.news) _) ⟨w1.heap.size, 0, none⟩ 1 1 [.int .i64 y1, .int .i64 y2, .int .i64 y3, .int .i64 y4, .int .i64 y5] (by rfl) (by rfl) (World.news_of_block (cs := #[.int .i64 y1, .int .i64 y2, .int .i64 y3, .int .i64 y4, .int .i64 y5]) (t := 98) (fr := (0, 0)) (heap_alloc_new w1.drew _)) (by simp [Value.oneCell']) (by omega) (by have := HL.out; omega) (by omega) (by omega) ?_; intro g' cap w2 h2 hf hlie; obtain ⟨q7, qf, hfin⟩ := KEY.out _ _ hf; have HFI := Lib.hid (hfin cap g' h2); clear hfin h2 hf)
      all_goals
        have HLI : Hid (∀ g'' : Nat, (Value.slice (some ⟨g', 0, none⟩) (t.news.length + 1) cap).ownBlock = some g'' → (Value.slice (some ⟨g, 0, none⟩) t.news.length cv).ownBlock = some g'' ∨ w.heap.size ≤ g'') := by
          intro g'' hg'
          simp only [Value.ownBlock, Option.some.injEq] at hg'
          subst hg'
          rcases hlie with h | h
          · exact .inl h
          · refine .inr ?_
            have := HZ.out
            simp at h
            omega
        clear hlie q7 qf
        go_wp2
        go_ret
        exact ⟨_, rfl, HFI.out.1, HFI.out.2, HLI.out⟩

set_option maxRecDepth 100000 in
set_option maxHeartbeats 4000000 in
theorem Do_else (x : Ids) (v : Value) (t : Nt.NT) (k a b n pl pb : Int) (w : World) (h1 : k ≠ 1) (h2 : k ≠ 2) (h3 : k ≠ 3) (h4 : k ≠ 4) (h5 : k ≠ 5) (h6 : k ≠ 6) (h : NtAt w x v t) : DoSaid x v t k a b n pl pb w := by
  have e : Nt.doT t k a b n = (t, 8) := by rw [Nt.doT, if_neg h1, if_neg h2, if_neg h3, if_neg h4, if_neg h5, if_neg h6]
  unfold DoSaid step6
  rw [e]
  clear e
  have g1 : (k == 1) = false := by simpa using h1
  have g2 : (k == 2) = false := by simpa using h2
  have g3 : (k == 3) = false := by simpa using h3
  have g4 : (k == 4) = false := by simpa using h4
  have g5 : (k == 5) = false := by simpa using h5
  have g6 : (k == 6) = false := by simpa using h6
  clear h1 h2 h3 h4 h5 h6
  have H := Lib.hid h; clear h
  go_enter Tryz.func105, Tryz.ntmps105
  go_wp2
  go_ret
  exact NtDo.none (H.out.keep0 ((Fr.refl _ _).alloc _)) ((Fr.refl _ _).alloc _)
theorem Do_any (x : Ids) (v : Value) (t : Nt.NT) (k a b n pl pb : Int) (m : Nat) (w : World) (hr : Nt.NOk t m) (hm : m ≤ 1000) (h : NtAt w x v t) :
    Calls Tryz.prog 105 #[.pointer (some ⟨x.b, 0, none⟩), step6 k a b n pl pb] w (NtDo x v (Nt.doT t k a b n).1 (Nt.doT t k a b n).2 w) := by
  by_cases h1 : k = 1
  · subst h1; exact Do_link x v t a b n pl pb m w hr h
  · by_cases h2 : k = 2
    · subst h2; exact Do_tick x v t a b n pl pb m w hr hm h
    · by_cases h3 : k = 3
      · subst h3; exact Do_tell x v t a b n pl pb m w hr h
      · by_cases h4 : k = 4
        · subst h4; exact Do_hear x v t a b n pl pb m w hr h
        · by_cases h5 : k = 5
          · subst h5; exact Do_lose x v t a b n pl pb m w hr h
          · by_cases h6 : k = 6
            · subst h6; exact Do_dbl x v t a b n pl pb m w hr h
            · exact Do_else x v t k a b n pl pb w h1 h2 h3 h4 h5 h6 h
end Go.Proofs.YtffoilacaffdgaaGreatDoor
/- Walks over package net: New, News, Way, Best. -/
namespace Go.Proofs.YtffoilacaffdgaaGreatDoor
open Go.RowKit Go.Deep

def CloneNews (l : List Nt.Nw) (w : World) (e : Ending) (w' : World) : Prop := ∃ v, e = .returned v ∧ SlN w' w.heap.size v l.length (nwI l) ∧ Fr NoB w w'
set_option maxRecDepth 100000 in
set_option maxHeartbeats 2000000 in
theorem Clone_any (v : Value) (l : List Nt.Nw) (w : World) (hl : l.length ≤ 1000) (h : SlN w 0 v l.length (nwI l)) :
    Calls Tryz.prog 107 #[v] w (CloneNews l w) := by
  rcases h.2 with ⟨rfl, h0⟩ | ⟨g, cap, cur, rfl, _, _, _⟩
  · have e : l = [] := List.eq_nil_of_length_eq_zero h0
    subst e
    clear h h0
    go_enter Tryz.func107, Tryz.ntmps107
    have hnil := fun w => Go.Lib.run_eql_slice_nil (P := Tryz.prog) w 67 98 none 0 0 0 0 Tryz.underlying67
    go_wp2
    go_ret
    exact ⟨_, rfl, World.ownsRow_nil _ _ _ _, Fr.refl _ _⟩
  · have H := Lib.hid h; clear h
    go_enter Tryz.func107, Tryz.ntmps107
    have hnil := fun w => Go.Lib.run_eql_slice_nil (P := Tryz.prog) w 67 98 (some ⟨g, 0, none⟩) l.length cap 0 0 Tryz.underlying67
    go_wp2_with (at_builtin; go_loud (refine app_own (by rfl) (.tmp 5) (.tmp 6) 67 98 5 40 (.agg #[.int .i64 0, .int .i64 0, .int .i64 0, .int .i64 0, .int .i64 0]) (by rfl) Tryz.underlying67 Tryz.info98 rfl (by omega) w.heap.size (.slice (some ⟨w.heap.size, 0, none⟩) 0 0) 0 [] (by rfl) ⟨rfl, .inr ⟨w.heap.size, 0, #[], rfl, Nat.le_refl _, heap_alloc_new w _, Nat.le_refl _, by unfold maxLen; omega, rfl, rfl⟩⟩ ⟨g, 0, none⟩ l.length cap ((nwI l).map (Value.int .i64)) (by rfl) (by rw [List.length_map, nwI_len]) (fun j u hu => news_rd (World.ownsRow.alloc H.out _) j u g rfl hu) (by intro u hu; obtain ⟨y, _, rfl⟩ := List.mem_map.1 hu; rfl) (by omega) (by omega) (by simp) ?_))
    intro v' w1 h1 hf
    have h1 : SlN w1 w.heap.size v' l.length (nwI l) := by
      unfold SlN
      simpa using h1
    have hf1 : Fr NoB w w1 := ((Fr.refl NoB w).alloc (.cells #[] 98)).trans' hf (fun i hi h => by
      simp only [Value.ownBlock, Option.some.injEq] at h
      omega)
    clear hf
    have H1 := Lib.hid h1; clear h1; have HF1 := Lib.hid hf1; clear hf1
    go_wp2
    go_ret
    exact ⟨_, rfl, H1.out, HF1.out⟩
def NewsPost (t : Nt.NT) (w : World) (e : Ending) (w' : World) : Prop := ∃ v, e = .returned v ∧ SlN w' w.heap.size v t.news.length (nwI t.news) ∧ Fr NoB w w'
set_option maxHeartbeats 2000000 in
theorem News_any (x : Ids) (v : Value) (t : Nt.NT) (w : World) (hl : t.news.length ≤ 1000) (h : NtAt w x v t) :
    Calls Tryz.prog 76 #[.pointer (some ⟨x.b, 0, none⟩)] w (NewsPost t w) := by
  have c7 := h.c7
  have H := Lib.hid h; clear h
  go_enter Tryz.func76, Tryz.ntmps76
  go_wp2_with fail
  refine (Clone_any v t.news _ hl H.out.news).mono ?_
  rintro e w1 ⟨v', rfl, h1, hf⟩
  have H1 := Lib.hid h1; clear h1; have HF := Lib.hid hf; clear hf
  go_wp2
  go_ret
  exact ⟨_, rfl, H1.out, HF.out⟩
def NewNtPost (w : World) (e : Ending) (w' : World) : Prop := ∃ (x : Ids) (v : Value), e = .returned (.pointer (some ⟨x.b, 0, none⟩)) ∧ NtAt w' x v Nt.begun ∧ Fr NoB w w' ∧ ∀ i, Ft x v i → w.heap.size ≤ i
/-- The first k nodes are there. -/
def NewRel (w : World) (b L : Nat) (i : Value) (wr : World) : Prop :=
  ∃ (k : Nat) (N : Nat → Nat), k ≤ 6 ∧ i = .int .i64 k ∧ CAt wr L 140 (fun _ _ => 0) ∧ wr.rowIs b 109 8 (fun j => if j = 0 then .pointer (some ⟨L, 0, none⟩) else if j < 7 then (if j - 1 < k then .pointer (some ⟨N (j - 1), 0, none⟩) else .pointer none) else .slice none 0 0) ∧
    (∀ j, j < k → NAt wr (N j) 146 (Nd.fresh j)) ∧ (∀ j, j < k → w.heap.size ≤ N j) ∧ (∀ j l, j < k → l < k → N j = N l → j = l) ∧ w.heap.size ≤ b ∧ w.heap.size ≤ L ∧ Fr NoB w wr
set_option maxRecDepth 100000 in
set_option maxHeartbeats 4000000 in
theorem NewNt (w : World) : Calls Tryz.prog 21 #[] w (NewNtPost w) := by
  go_enter Tryz.func21, Tryz.ntmps21
  go_wp2_with fail
  refine (NewL _).mono ?_
  rintro e w1 ⟨rfl, hL, hf⟩
  have HL := Lib.hid hL; clear hL; have HF := Lib.hid hf; clear hf
  go_wp2
  refine wp_name fun w2 hw2 => ?_
  have hfa : Fr NoB w1 w2 := by rw [hw2]; exact (Fr.refl _ _).alloc _
  have hrow : w2.rowIs w1.heap.size 109 8 (fun j => if j = 0 then .pointer (some ⟨w.heap.size, 0, none⟩) else if j < 7 then (if j - 1 < 0 then .pointer (some ⟨(fun _ => 0) (j - 1), 0, none⟩) else .pointer none) else .slice none 0 0) := by
    rw [hw2]
    exact World.rowIs_alloc w1 _ _ _ (fun i hi => by
      match i, hi with
      | 0, _ => rfl
      | 1, _ => rfl
      | 2, _ => rfl
      | 3, _ => rfl
      | 4, _ => rfl
      | 5, _ => rfl
      | 6, _ => rfl
      | 7, _ => rfl)
  have hL := hfa.row HL.out (fun h => h)
  have hz := HF.out.size
  have hf := HF.out.trans hfa
  have hbL : w.heap.size < w1.heap.size := World.rowIs.lt HL.out
  clear hw2 hfa HL HF
  generalize hL' : w.heap.size = L at *
  generalize w1.heap.size = b at *
  have HL := Lib.hid hL; clear hL; have HF := Lib.hid hf; clear hf; have HRO := Lib.hid hrow; clear hrow; have HZ := Lib.hid hz; clear hz; have HLL := Lib.hid hL'; clear hL'
  go_loopw [6] (fun i wr => NewRel w b L i wr) (fun i _ => 6 - (intOf i).toNat)
  case atStart => exact ⟨0, fun _ => 0, by omega, rfl, HL.out, HRO.out, fun j h => by omega, fun j h => by omega, fun j l h => by omega, by have := HZ.out; have := HLL.out; omega, by have := HLL.out; omega, HF.out⟩
  case round =>
    clear HL HF HRO HZ
    obtain ⟨k, N, hk, rfl, hL, hrow, hn, hN, hinj, hb, hLz, hf⟩ := hrel
    have HL := Lib.hid hL; clear hL; have HRO := Lib.hid hrow; clear hrow; have HN := Lib.hid hn; clear hn; have HNN := Lib.hid hN; clear hN; have HI := Lib.hid hinj; clear hinj; have HB := Lib.hid hb; clear hb; have HLZ := Lib.hid hLz; clear hLz; have HF := Lib.hid hf; clear hf
    by_cases hk6 : k < 6
    · have hki : (k : Int) < 6 := by omega
      have c1 := World.rowIs.cell HRO.out (i := 1 + k) (by omega)
      rw [if_neg (by omega), if_pos (by omega), if_neg (by omega)] at c1
      have f1 := World.rowIs.frozen HRO.out (1 + k)
      go_wp2_with fail
      go_region_held3 (fun W => (W.cell? ⟨b, 1 + k, none⟩).isSome = true ∧ W.frozen? ⟨b, 1 + k, none⟩ = false)
        (first | exact ⟨congrArg Option.isSome c1, f1⟩ | exact ⟨congrArg Option.isSome t1, t2⟩ | exact ⟨congrArg Option.isSome (World.cell?_setCell_same' _ _ _ (congrArg Option.isSome t1)), World.rowIs.frozen (World.rowIs.set hro6 (1 + k) _) _⟩)
        ((go_at_call 42; refine (New_yes k _ hk6).mono ?_; rintro e w6 ⟨rfl, hnn, hff⟩; have hro6 := hff.row (World.rowIs.drew HRO.out) (fun h => h); have t1 := cell_fr hff c1 (fun h => h); have t2 := World.rowIs.frozen hro6 (1 + k)))
      have hnn : NAt w6 wr.heap.size 146 (Nd.fresh k) := hnn
      have hrow : (w6.setCell ⟨b, 1 + k, none⟩ (.pointer (some ⟨wr.heap.size, 0, none⟩))).rowIs b 109 8 (fun j => if j = 0 then .pointer (some ⟨L, 0, none⟩) else if j < 7 then (if j - 1 < k + 1 then .pointer (some ⟨if j - 1 = k then wr.heap.size else N (j - 1), 0, none⟩) else .pointer none) else .slice none 0 0) := by
        refine (World.rowIs.set hro6 (1 + k) _).congr (fun i hi => ?_)
        by_cases e : i = 1 + k
        · subst e
          rw [if_pos rfl, if_neg (by omega), if_pos (by omega), if_pos (by omega), if_pos (by omega)]
        · rw [if_neg e]
          by_cases h0 : i = 0
          · rw [if_pos h0, if_pos h0]
          · rw [if_neg h0, if_neg h0]
            by_cases h7 : i < 7
            · rw [if_pos h7, if_pos h7]
              by_cases hk1 : i - 1 < k
              · rw [if_pos hk1, if_pos (by omega), if_neg (by omega)]
              · rw [if_neg hk1, if_neg (by omega)]
            · rw [if_neg h7, if_neg h7]
      have hbz : b < wr.heap.size := World.rowIs.lt HRO.out
      have hLw : L < wr.heap.size := World.rowIs.lt HL.out
      have hfs : Fr (OneB b) w6 (w6.setCell ⟨b, 1 + k, none⟩ (.pointer (some ⟨wr.heap.size, 0, none⟩))) := (Fr.refl _ _).set1 _ _
      have hL2 := hfs.row (hff.row (World.rowIs.drew HL.out) (fun h => h)) (fun h : L = b => by omega)
      have hwz : w.heap.size ≤ wr.heap.size := HF.out.size
      have hn2 : ∀ j, j < k + 1 → NAt (w6.setCell ⟨b, 1 + k, none⟩ (.pointer (some ⟨wr.heap.size, 0, none⟩))) (if j = k then wr.heap.size else N j) 146 (Nd.fresh j) := by
        intro j hj
        by_cases e : j = k
        · rw [if_pos e, e]; exact hnn.keep hfs (fun h : wr.heap.size = b => by omega)
        · rw [if_neg e]
          have h1 := HN.out j (by omega)
          exact (NAt.keep (w := wr.drew) (World.rowIs.drew h1) hff (fun h => h)).keep hfs (fun h : N j = b => rows_apart HRO.out h1 (by decide) h.symm)
      have hf2 : Fr NoB w (w6.setCell ⟨b, 1 + k, none⟩ (.pointer (some ⟨wr.heap.size, 0, none⟩))) := (HF.out.drew.trans hff).setNew HB.out _ _
      have hi2 : ∀ j l, j < k + 1 → l < k + 1 → (if j = k then wr.heap.size else N j) = (if l = k then wr.heap.size else N l) → j = l := by
        intro j l hj hl h
        by_cases e : j = k
        · by_cases e' : l = k
          · omega
          · rw [if_pos e, if_neg e'] at h
            have := (HN.out l (by omega)).lt
            omega
        · by_cases e' : l = k
          · rw [if_neg e, if_pos e'] at h
            have := (HN.out j (by omega)).lt
            omega
          · rw [if_neg e, if_neg e'] at h
            exact HI.out j l (by omega) (by omega) h
      clear hro6 t1 t2 hff hfs hnn c1 f1
      have HR2 := Lib.hid hrow; clear hrow; have HL2 := Lib.hid hL2; clear hL2; have HN2 := Lib.hid hn2; clear hn2; have HF2 := Lib.hid hf2; clear hf2; have HI2 := Lib.hid hi2; clear hi2
      go_wp2
      go_roundw
      case rel => exact ⟨k + 1, fun j => if j = k then wr.heap.size else N j, by omega, by go_num, HL2.out, HR2.out, HN2.out, fun j hj => by
        dsimp only
        by_cases e : j = k
        · rw [if_pos e]; exact hwz
        · rw [if_neg e]; exact HNN.out j (by omega), HI2.out, HB.out, HLZ.out, HF2.out⟩
      case measure => simp [intOf]; omega
    · obtain rfl : k = 6 := by omega
      go_wp2
      go_ret
      refine ⟨⟨b, L, N⟩, .slice none 0 0, rfl, ⟨HRO.out.congr (fun i hi => ?_), HL.out, HN.out, World.ownsRow_nil _ _ _ _, fun j k hj hk h => HI.out j k hj hk h⟩, HF.out, fun i hi => ?_⟩
      · unfold netF
        by_cases h0 : i = 0
        · rw [if_pos h0, if_pos h0]
        · rw [if_neg h0, if_neg h0]
          by_cases h7 : i < 7
          · rw [if_pos h7, if_pos h7, if_pos (by omega)]
          · rw [if_neg h7, if_neg h7]
      · rcases hi with rfl | rfl | ⟨k, hk, rfl⟩ | hi
        · exact HB.out
        · exact HLZ.out
        · exact HNN.out k hk
        · cases hi
end Go.Proofs.YtffoilacaffdgaaGreatDoor
/- Walks: slices.Index, slices.Contains; package net: Way, Path; netBegun. -/
namespace Go.Proofs.YtffoilacaffdgaaGreatDoor
open Go.RowKit Go.Deep

def NWayAt (s : Nd.NS) (b : Int) (w : World) (e : Ending) (w' : World) : Prop := e = .returned (way3 (Nd.wayAt s b)) ∧ Fr NoB w w'
set_option maxRecDepth 100000 in
set_option maxHeartbeats 2000000 in
theorem NWay_at (x : Ids) (v : Value) (t : Nt.NT) (a : Nat) (b : Int) (w : World) (ha : a < 6) (h : NtAt w x v t) :
    Calls Tryz.prog 75 #[.pointer (some ⟨x.b, 0, none⟩), .int .i64 a, .int .i64 b] w (NWayAt (t.N a) b w) := by
  have c1 := h.cN ha
  have hbl := h.lt (.inl rfl)
  have H := Lib.hid h; clear h
  go_enter Tryz.func75, Tryz.ntmps75
  go_wp2_with fail
  refine (Node_yes _ _ (by omega) (by omega)).mono ?_; rintro e w' ⟨rfl, rfl⟩
  go_wp2_with fail
  refine (Way_any (x.N a) b (t.N a) _ ((H.out.node a ha).alloc _)).mono ?_
  rintro e w1 ⟨rfl, hf⟩
  have hr := hf.row (rowIs_new w 3 (.int .i64 0) 95) (fun h => h)
  have hf1 : Fr NoB w w1 := ((Fr.refl _ w).alloc _).trans hf
  have z0 := World.rowIs.cell hr (i := 0) (by omega)
  have z1 := World.rowIs.cell hr (i := 1) (by omega)
  have z2 := World.rowIs.cell hr (i := 2) (by omega)
  have y0 := World.rowIs.frozen hr 0
  have y1 := World.rowIs.frozen hr 1
  have y2 := World.rowIs.frozen hr 2
  clear hf H c1 hbl
  have HF := Lib.hid hf1; clear hf1; have HR := Lib.hid hr; clear hr
  generalize hp : w.heap.size = p at *
  generalize hwy : Nd.wayAt (t.N a) b = wy at *
  have HWY := Lib.hid hwy; clear hwy
  obtain ⟨wa, wb, wc⟩ := wy
  unfold way3
  go_wp2
  refine bodyPost_ret (v := .agg #[.int .i64 wa, .int .i64 wb, .int .i64 wc]) ?_ rfl ⟨by rw [HWY.out]; rfl, ((HF.out.setNew (by omega) _ _).setNew (by omega) _ _).setNew (by omega) _ _⟩
  have hR := World.rowIs.set (World.rowIs.set (World.rowIs.set HR.out 0 (.int .i64 wa)) 1 (.int .i64 wb)) 2 (.int .i64 wc)
  have s0 := World.rowIs.cell hR (i := 0) (by omega)
  have s1 := World.rowIs.cell hR (i := 1) (by omega)
  have s2 := World.rowIs.cell hR (i := 2) (by omega)
  clear hR
  generalize ((w1.setCell ⟨p, 0, none⟩ (.int .i64 wa)).setCell ⟨p, 1, none⟩ (.int .i64 wb)).setCell ⟨p, 2, none⟩ (.int .i64 wc) = W5 at *
  simp at s0 s1 s2
  simp [results, Tryz.results75, go_sem, s0, s1, s2]
def hopT (t : Nt.NT) (dst : Int) (p : Int) : Int := (Nd.wayAt (t.N p.toNat) dst).hop
theorem nodup_len : ∀ (n : Nat) (l : List Int), l.Nodup → (∀ y ∈ l, 0 ≤ y ∧ y < n) → l.length ≤ n
  | 0, l, _, h => by
    cases l with
    | nil => simp
    | cons a l => have := h a (by simp); omega
  | n + 1, l, hn, h => by
    have h1 := nodup_len n (l.erase (n : Int)) (hn.erase _) (fun y hy => by
      have hy' := (List.Nodup.mem_erase_iff hn).1 hy
      have := h y hy'.2
      have := hy'.1
      omega)
    have h2 : l.length ≤ (l.erase (n : Int)).length + 1 := by
      by_cases hm : (n : Int) ∈ l
      · rw [List.length_erase_of_mem hm]; omega
      · rw [List.erase_of_not_mem hm]; omega
    omega
end Go.Proofs.YtffoilacaffdgaaGreatDoor
/- What steps keep in a net: heard is no better than the best of who said it; ages are counted at home. -/
namespace Go.Proofs.YtffoilacaffdgaaGreatDoor.Nd

/-- What is told of each way is no better than the best. -/
structure W2 (s : NS) : Prop where
  told : ∀ k, k < 6 → betB (s.wS k) (s.wD k) (s.bS k) (s.bD k) = false
  bD : ∀ k, k < 6 → s.bD k ≤ 200
theorem closed {P : NS → Prop} (hp : ∀ s k, k < 6 → Ok s → P s → P (pick s k)) (hs : ∀ s s' : NS, s'.me = s.me → s'.bS = s.bS → s'.bD = s.bD → s'.wS = s.wS → s'.wD = s.wD → s'.wH = s.wH → P s → P s') {s : NS} (ok : Ok s) (h : P s) :
    (∀ who c, P (linkC s who c).1) ∧ ∀ f t q d, P (hearC s f t q d).1 := by
  have hall : ∀ (s : NS), Ok s → P s → ∀ k, k ≤ 6 → P (all s k) := by
    intro s ok h k
    induction k with
    | zero => intro _; exact h
    | succ k ih => intro hk; exact hp _ k (by omega) (ok.all k) (ih (by omega))
  refine ⟨fun who c => ?_, fun f t q d => ?_⟩
  · unfold Nd.linkC; split
    · exact h
    · rename_i hb
      simp only [linkBad] at hb
      show P (link s who.toNat c)
      unfold Nd.link; dsimp only; split
      · exact hall _ (Ok.forget (Ok.cost' ok _ c (by omega) (by omega)) _) (hs s _ rfl rfl rfl rfl rfl rfl h) 6 (by omega)
      · exact hall _ (Ok.cost' ok _ c (by omega) (by omega)) (hs s _ rfl rfl rfl rfl rfl rfl h) 6 (by omega)
  · unfold Nd.hearC; split
    · exact h
    · rename_i hb
      simp only [hearBad] at hb
      split
      · exact h
      · exact hp _ _ (by omega) (ok.heard _ _ q d (by omega) (by omega) (by omega)) (hs s _ rfl rfl rfl rfl rfl rfl h)
theorem W2.pick {s : NS} {k : Nat} (hk : k < 6) (h : W2 s) : W2 (pick s k) := by
  unfold Nd.pick
  split
  · exact h
  · have key2 : (choose s k 6).hop = -1 ∧ (choose s k 6).seq = s.bS k ∧ (choose s k 6).dist = 200 ∨ (choose s k 6).hop ≠ -1 ∧ (choose s k 6).dist < 200 := by
      rcases choose_cases s k with e | ⟨t, ht, hm, e⟩
      · rw [e]; exact .inl ⟨rfl, rfl, rfl⟩
      · rw [e]
        simp only [may, Bool.and_eq_true, decide_eq_true_eq] at hm
        exact .inr ⟨by simp only [key]; omega, hm.1.2⟩
    have hb := h.bD k hk
    generalize choose s k 6 = w at *
    refine ⟨fun j hj => ?_, fun j hj => ?_⟩
    · by_cases e : j = k
      · subst e
        simp only [lay, up_same]
        split
        · rw [up_same, up_same, betB_no]; omega
        · rename_i hn
          rcases key2 with ⟨h1, h2, h3⟩ | ⟨h1, h2⟩
          · rw [h2, h3, betB_no]; omega
          · cases hc : betB w.seq w.dist (s.bS j) (s.bD j)
            · rfl
            · exact absurd ⟨h1, hc⟩ hn
      · have := h.told j hj
        simp only [lay]
        split <;> simp [up, e, this]
    · have := h.bD j hj
      simp only [lay]
      split
      · unfold up; split
        · rename_i hh _; rcases key2 with ⟨h1, h2, h3⟩ | ⟨h1, h2⟩ <;> omega
        · exact this
      · exact this
theorem W2.both {s : NS} (ok : Ok s) (h : W2 s) : (∀ who c, W2 (linkC s who c).1) ∧ ∀ f t q d, W2 (hearC s f t q d).1 :=
  closed (P := W2) (fun _ _ hk _ h => W2.pick hk h) (fun s s' _ e1 e2 e3 e4 _ h => ⟨by rw [e1, e2, e3, e4]; exact h.told, by rw [e2]; exact h.bD⟩) ok h
theorem W2.tick {s : NS} (h : W2 s) : W2 (tick s) := by
  refine ⟨fun k hk => ?_, fun k hk => ?_⟩
  · by_cases e : k = s.me
    · subst e
      have e1 : (Nd.tick s).wS s.me = s.wS s.me + 1 := tick_wSme s
      have e2 : (Nd.tick s).wD s.me = 0 := by simp [Nd.tick, Nd.own]
      have e3 : (Nd.tick s).bS s.me = s.wS s.me + 1 := by simp [Nd.tick, Nd.own]
      have e4 : (Nd.tick s).bD s.me = 0 := by simp [Nd.tick, Nd.own]
      rw [e1, e2, e3, e4, betB_no]; omega
    · have := h.told k hk
      simpa [Nd.tick, Nd.own, up, e] using this
  · have := h.bD k hk
    simp only [Nd.tick, Nd.own, up]; split <;> omega
theorem W2.fresh {me : Nat} : W2 (fresh me) := by
  refine ⟨fun k hk => ?_, fun k hk => ?_⟩
  · rw [betB_no]
    simp only [Nd.fresh, Nd.own, newK, up]
    split <;> (try split) <;> omega
  · simp only [Nd.fresh, Nd.own, newK, up]
    split <;> (try split) <;> omega
/-- Ages are no greater than those told. -/
def Cap (s : NS) (T : Nat → Int) : Prop := ∀ k, k < 6 → s.wS k ≤ T k ∧ s.bS k ≤ T k ∧ ∀ f, f < 6 → s.hS f k ≤ T k
theorem Cap.pick {s : NS} {T : Nat → Int} {k : Nat} (hk : k < 6) (h : Cap s T) : Cap (pick s k) T := by
  unfold Nd.pick
  split
  · exact h
  · have key2 : (choose s k 6).seq ≤ T k := by
      rcases choose_cases s k with e | ⟨t, ht, hm, e⟩
      · rw [e]; exact (h k hk).2.1
      · rw [e]; exact (h k hk).2.2 t ht
    generalize choose s k 6 = w at *
    intro j hj
    obtain ⟨a, b, c⟩ := h j hj
    refine ⟨?_, ?_, c⟩
    · simp only [lay, up]; split
      · rename_i e; rw [e]; exact key2
      · exact a
    · simp only [lay]; split
      · unfold up; split
        · rename_i e; rw [e]; exact key2
        · exact b
      · exact b
theorem Cap.all {s : NS} {T : Nat → Int} (h : Cap s T) : ∀ k, k ≤ 6 → Cap (all s k) T
  | 0, _ => h
  | k + 1, hk => Cap.pick (by omega) (Cap.all h k (by omega))
theorem Cap.linkC {s : NS} {T : Nat → Int} (h : Cap s T) (h0 : ∀ k, k < 6 → 0 ≤ T k) (who c : Int) : Cap (linkC s who c).1 T := by
  unfold Nd.linkC; split
  · exact h
  · show Cap (link s who.toNat c) T
    unfold Nd.link; dsimp only; split
    · refine Cap.all (s := forget { s with cost := up s.cost who.toNat c } who.toNat) (fun k hk => ⟨(h k hk).1, (h k hk).2.1, fun f hf => ?_⟩) 6 (by omega)
      have h1 := (h k hk).2.2 f hf
      have h2 := h0 k hk
      simp only [forget, forgetK]; split <;> omega
    · exact Cap.all (s := { s with cost := up s.cost who.toNat c }) h 6 (by omega)
theorem Cap.hearC {s : NS} {T : Nat → Int} (h : Cap s T) {f t q d : Int} (hq : q ≤ T t.toNat) : Cap (hearC s f t q d).1 T := by
  unfold Nd.hearC; split
  · exact h
  · rename_i hb
    simp only [hearBad] at hb
    split
    · exact h
    · refine Cap.pick (s := { s with hS := up2 s.hS f.toNat t.toNat q, hD := up2 s.hD f.toNat t.toNat d }) (by omega) (fun k hk => ⟨(h k hk).1, (h k hk).2.1, fun g hg => ?_⟩)
      have h1 := (h k hk).2.2 g hg
      simp only [up2]; split
      · rename_i e; rw [e.2]; exact hq
      · exact h1
theorem Cap.mono {s : NS} {T U : Nat → Int} (h : Cap s T) (hT : ∀ k, k < 6 → T k ≤ U k) : Cap s U := fun k hk => by
  obtain ⟨a, b, c⟩ := h k hk
  have := hT k hk
  exact ⟨by omega, by omega, fun f hf => by have := c f hf; omega⟩
theorem Cap.tick {s : NS} {T U : Nat → Int} (h : Cap s T) (hT : ∀ k, k < 6 → T k ≤ U k) (hm : s.wS s.me + 1 ≤ U s.me) : Cap (tick s) U := fun k hk => by
  obtain ⟨a, b, c⟩ := Cap.mono h hT k hk
  refine ⟨?_, ?_, c⟩
  · simp only [Nd.tick, Nd.own, up]; split
    · rename_i e; rw [e]; exact hm
    · exact a
  · simp only [Nd.tick, Nd.own, up]; split
    · rename_i e; rw [e]; simpa using hm
    · exact b
theorem fresh_cap {me : Nat} (_hm : me < 6) {T : Nat → Int} (h : ∀ k, k < 6 → 0 ≤ T k) : Cap (fresh me) T := fun k hk => by
  have := h k hk
  refine ⟨?_, ?_, fun f hf => ?_⟩
  · simp only [Nd.fresh, Nd.own, newK]; exact this
  · simp only [Nd.fresh, Nd.own, newK, up]; split <;> simpa using this
  · simp only [Nd.fresh, Nd.own, newK]; exact this
end Go.Proofs.YtffoilacaffdgaaGreatDoor.Nd
/- What steps keep in a net. -/
namespace Go.Proofs.YtffoilacaffdgaaGreatDoor.Nt
open Nd

/-- The age that a node tells of itself. -/
def age (t : NT) (k : Nat) : Int := (t.N k).wS k
structure Nice (s : NS) : Prop where
  bst : Bst s
  wy : Wy s
  w2 : W2 s
theorem Nice.fresh {me : Nat} (h : me < 6) : Nice (fresh me) := ⟨Bst.fresh h, Wy.fresh me, W2.fresh⟩
theorem Nice.linkC {s : NS} (h : Nice s) (ok : Ok s) (who c : Int) : Nice (linkC s who c).1 := ⟨h.bst.linkC who c, h.wy.linkC ok who c, (W2.both ok h.w2).1 who c⟩
theorem Nice.hearC {s : NS} (h : Nice s) (ok : Ok s) (f t q d : Int) : Nice (hearC s f t q d).1 := ⟨h.bst.hearC f t q d, h.wy.hearC ok f t q d, (W2.both ok h.w2).2 f t q d⟩
theorem Nice.tick {s : NS} (h : Nice s) (h0 : 0 ≤ s.wS s.me) : Nice (tick s) := ⟨h.bst.tick, h.wy.tick h0, h.w2.tick⟩

/-- All that is said is no better than the best of who said it, no younger than its own age. -/
structure Str (t : NT) (n : Nat) : Prop where
  ok : NOk t n
  nice : ∀ b, b < 6 → Nice (t.N b)
  cost : ∀ a b, a < 6 → b < 6 → (t.N a).cost b = t.C a b
  cap : ∀ a, a < 6 → Cap (t.N a) (age t)
  heard : ∀ a f k, a < 6 → f < 6 → k < 6 → betB ((t.N a).hS f k) ((t.N a).hD f k) ((t.N f).bS k) ((t.N f).bD k) = false
  news : ∀ x ∈ t.news, isN x.a ∧ isN x.t ∧ x.a ≠ x.g ∧ x.q ≤ age t x.t.toNat ∧ betB x.q x.d ((t.N x.a.toNat).bS x.t.toNat) ((t.N x.a.toNat).bD x.t.toNat) = false
theorem betB_low {s : NS} (h : Nice s) {k : Nat} (hk : k < 6) : betB 0 200 (s.bS k) (s.bD k) = false := by
  have h1 := h.wy.bS k hk
  have h2 := h.w2.bD k hk
  rw [betB_no]; omega
theorem betB_trans {a b c d e f : Int} (h1 : betB a b c d = false) (h2 : betB c d e f = false) : betB a b e f = false := by
  rw [betB_no] at *; omega
theorem Str.begun : Str begun 0 where
  ok := NOk.begun
  nice b hb := Nice.fresh hb
  cost a b _ _ := by simp [Nt.begun, fresh, own, newK]
  cap a ha := fresh_cap ha (fun k _ => by simp [age, Nt.begun, fresh, own, newK])
  heard a f k ha hf hk := by
    have h1 : ((Nt.begun.N a).hS f k) = 0 := by simp [Nt.begun, fresh, own, newK]
    have h2 : ((Nt.begun.N a).hD f k) = 200 := by simp [Nt.begun, fresh, own, newK, hf, hk]
    rw [h1, h2]
    exact betB_low (Nice.fresh (me := f) hf) hk
  news x hx := by cases hx
theorem Str.age0 {t : NT} {n : Nat} (h : Str t n) {k : Nat} (hk : k < 6) : 0 ≤ age t k := by
  have := (h.ok.run k hk).lo
  rw [h.ok.me k hk] at this
  exact this
/-- One node turned, none of its ages fell, its bests did not become worse. -/
theorem Str.upd {t : NT} {n m : Nat} (h : Str t n) {b : Nat} (hb : b < 6) {s : NS} (hok : NOk { t with N := upN t.N b s } m) (hs : Nice s) (hc : ∀ k, k < 6 → s.cost k = (t.N b).cost k)
    (hw : (t.N b).wS b ≤ s.wS b) (hcap : Cap s (fun k => if k = b then s.wS b else age t k)) (hnw : ∀ k, k < 6 → NW (t.N b) s k)
    (hh : ∀ f k, f < 6 → k < 6 → betB (s.hS f k) (s.hD f k) ((t.N f).bS k) ((t.N f).bD k) = false) : Str { t with N := upN t.N b s } m := by
  have hage : ∀ k, age { t with N := upN t.N b s } k = if k = b then s.wS b else age t k := by
    intro k
    show (upN t.N b s k).wS k = _
    by_cases e : k = b
    · subst e; rw [upN_same, if_pos rfl]
    · rw [upN_other _ _ _ _ e, if_neg e]; rfl
  have hle : ∀ k, age t k ≤ age { t with N := upN t.N b s } k := by
    intro k
    rw [hage]
    by_cases e : k = b
    · subst e; rw [if_pos rfl]; exact hw
    · rw [if_neg e]; omega
  have hbest : ∀ f k, f < 6 → k < 6 → NW (t.N f) (upN t.N b s f) k := by
    intro f k hf hk
    by_cases e : f = b
    · subst e; rw [upN_same]; exact hnw k hk
    · rw [upN_other _ _ _ _ e]; exact NW.refl _ _
  refine ⟨hok, fun a ha => ?_, fun a k ha hk => ?_, fun a ha => ?_, fun a f k ha hf hk => ?_, fun x hx => ?_⟩
  · show Nice (upN t.N b s a)
    by_cases e : a = b
    · subst e; rw [upN_same]; exact hs
    · rw [upN_other _ _ _ _ e]; exact h.nice a ha
  · show (upN t.N b s a).cost k = t.C a k
    by_cases e : a = b
    · subst e; rw [upN_same, hc k hk]; exact h.cost a k ha hk
    · rw [upN_other _ _ _ _ e]; exact h.cost a k ha hk
  · show Cap (upN t.N b s a) _
    by_cases e : a = b
    · subst e; rw [upN_same]; exact hcap.mono (fun k _ => by rw [hage]; exact Int.le_refl _)
    · rw [upN_other _ _ _ _ e]; exact (h.cap a ha).mono (fun k _ => hle k)
  · show betB ((upN t.N b s a).hS f k) ((upN t.N b s a).hD f k) ((upN t.N b s f).bS k) ((upN t.N b s f).bD k) = false
    have h1 : betB ((upN t.N b s a).hS f k) ((upN t.N b s a).hD f k) ((t.N f).bS k) ((t.N f).bD k) = false := by
      by_cases e : a = b
      · subst e; rw [upN_same]; exact hh f k hf hk
      · rw [upN_other _ _ _ _ e]; exact h.heard a f k ha hf hk
    exact betB_trans h1 (hbest f k hf hk)
  · obtain ⟨h1, h2, h3, h4, h5⟩ := h.news x hx
    unfold isN at h1 h2
    refine ⟨h1, h2, h3, Int.le_trans h4 (hle _), betB_trans h5 (hbest _ _ (by omega) (by omega))⟩
theorem hearC_heard {s : NS} (f t q d : Int) (g k : Nat) : ((hearC s f t q d).1.hS g k = s.hS g k ∧ (hearC s f t q d).1.hD g k = s.hD g k) ∨ ((hearC s f t q d).1.hS g k = q ∧ (hearC s f t q d).1.hD g k = d ∧ g = f.toNat ∧ k = t.toNat) := by
  unfold Nd.hearC; split
  · exact .inl ⟨rfl, rfl⟩
  · split
    · exact .inl ⟨rfl, rfl⟩
    · unfold hear
      have h1 := pick_heard { s with hS := up2 s.hS f.toNat t.toNat q, hD := up2 s.hD f.toNat t.toNat d } t.toNat
      rw [h1.1, h1.2.1]
      simp only [up2]
      by_cases e : g = f.toNat ∧ k = t.toNat
      · exact .inr ⟨if_pos e, if_pos e, e.1, e.2⟩
      · exact .inl ⟨if_neg e, if_neg e⟩
theorem linkC_heard {s : NS} (who c : Int) (g k : Nat) : ((linkC s who c).1.hS g k = s.hS g k ∧ (linkC s who c).1.hD g k = s.hD g k) ∨ ((linkC s who c).1.hS g k = 0 ∧ (linkC s who c).1.hD g k = 200) := by
  unfold Nd.linkC; split
  · exact .inl ⟨rfl, rfl⟩
  · show ((link s who.toNat c).hS g k = _ ∧ _) ∨ ((link s who.toNat c).hS g k = _ ∧ _)
    unfold Nd.link; dsimp only; split
    · rw [(all_heard _ 6).1, (all_heard _ 6).2.1]
      simp only [forget, forgetK]
      by_cases e : g = who.toNat ∧ k < 6
      · exact .inr ⟨if_pos e, if_pos e⟩
      · exact .inl ⟨if_neg e, if_neg e⟩
    · rw [(all_heard _ 6).1, (all_heard _ 6).2.1]
      exact .inl ⟨rfl, rfl⟩
/-- No step of another kind: what holds of the news that are left. -/
theorem Str.sub {t : NT} {n : Nat} (h : Str t n) {l : List Nw} (hl : ∀ x ∈ l, x ∈ t.news) (hlen : l.length ≤ 40) : Str { t with news := l } n :=
  ⟨⟨h.ok.me, h.ok.run, h.ok.cost, fun x hx => h.ok.g x (hl x hx), hlen⟩, h.nice, h.cost, h.cap, h.heard, fun x hx => h.news x (hl x hx)⟩
theorem Str.mono {t : NT} {n m : Nat} (h : Str t n) (hm : n ≤ m) : Str t m := ⟨h.ok.mono hm, h.nice, h.cost, h.cap, h.heard, h.news⟩
theorem Str.heardT {t : NT} {n : Nat} (h : Str t n) {x : Nw} (hg : isN x.g) (hx : isN x.a ∧ isN x.t ∧ x.a ≠ x.g ∧ x.q ≤ age t x.t.toNat ∧ betB x.q x.d ((t.N x.a.toNat).bS x.t.toNat) ((t.N x.a.toNat).bD x.t.toNat) = false) : Str (Nt.heard t x).1 n := by
  obtain ⟨_, h2, _, h4, h5⟩ := hx
  have hok := NOk.heard h.ok hg
  unfold isN at hg h2
  have hb : x.g.toNat < 6 := by omega
  have hme := h.ok.me _ hb
  have hwS := hearC_wSme (t.N x.g.toNat) x.a x.t x.q x.d
  rw [hme] at hwS
  refine h.upd hb hok ((h.nice _ hb).hearC (h.ok.run _ hb).ok _ _ _ _) (fun k _ => by rw [hearC_cost]) (by rw [hwS]; omega) ?_ (fun k hk => NW.hearC _ _ _ _ _ _) (fun f k hf hk => ?_)
  · have := (h.cap _ hb).hearC (f := x.a) (t := x.t) (q := x.q) (d := x.d) h4
    refine this.mono (fun k _ => ?_)
    by_cases e : k = x.g.toNat
    · rw [if_pos e, hwS, e]; exact Int.le_refl _
    · rw [if_neg e]; exact Int.le_refl _
  · rcases hearC_heard (s := t.N x.g.toNat) x.a x.t x.q x.d f k with ⟨e1, e2⟩ | ⟨e1, e2, e3, e4⟩
    · rw [e1, e2]; exact h.heard _ f k hb hf hk
    · rw [e1, e2, e3, e4]; exact h5
theorem Str.tickOk {t : NT} {n a : Nat} (h : Str t n) (ha : a < 6) : Str (tickOk t a) (n + 1) := by
  have hme := h.ok.me _ ha
  have hwS := tick_wSme (t.N a)
  rw [hme] at hwS
  refine h.upd ha (h.ok.tickOk ha) ((h.nice a ha).tick (h.ok.run a ha).lo) (fun k _ => rfl) (by rw [hwS]; omega) ?_ (fun k hk => NW.tick (h.nice a ha).bst k) (fun f k hf hk => h.heard a f k ha hf hk)
  refine (h.cap a ha).tick (fun k _ => ?_) ?_
  · by_cases e : k = a
    · subst e; rw [if_pos rfl, hwS]; unfold age; omega
    · rw [if_neg e]; omega
  · rw [hme, if_pos rfl, hwS]; omega
theorem Str.tellT {t : NT} {n : Nat} (h : Str t n) (a b : Int) : Str (tellT t a b).1 n := by
  have hok := h.ok.tellT a b
  unfold Nt.tellT at *
  split at hok
  · rename_i h1; rw [if_pos h1]; exact h
  · rename_i h1
    rw [if_neg h1]
    split at hok
    · rename_i h2; rw [if_pos h2]; exact h
    · rename_i h2
      rw [if_neg h2]
      split at hok
      · rename_i h3; rw [if_pos h3]; exact h
      · rename_i h3
        rw [if_neg h3]
        have hab := Classical.not_not.1 h1
        obtain ⟨⟨a0, a1⟩, ⟨b0, b1⟩⟩ := hab
        obtain ⟨p, rfl⟩ := Int.eq_ofNat_of_zero_le a0
        obtain ⟨q, rfl⟩ := Int.eq_ofNat_of_zero_le b0
        rw [Int.toNat_natCast, Int.toNat_natCast] at h2
        have hp : p < 6 := by omega
        have hpq : p ≠ q := fun e => by subst e; exact h2 (h.ok.cost.self p hp)
        refine ⟨hok, h.nice, h.cost, h.cap, h.heard, fun x hx => ?_⟩
        rcases List.mem_append.1 hx with hx | hx
        · exact h.news x hx
        · rw [Int.toNat_natCast] at hx
          simp only [tellW, List.mem_map, List.mem_range] at hx
          obtain ⟨k, hk, rfl⟩ := hx
          have hme := h.ok.me p hp
          refine ⟨⟨by dsimp only; omega, by dsimp only; omega⟩, ⟨by dsimp only; omega, by dsimp only; omega⟩, by dsimp only; omega, ?_, ?_⟩
          · dsimp only; rw [Int.toNat_natCast]; exact ((h.cap p hp) k hk).1
          · dsimp only; rw [Int.toNat_natCast, hme, Int.toNat_natCast]; exact (h.nice p hp).w2.told k hk
theorem Str.tellsT {n : Nat} (a : Int) : ∀ (l : List Nat) {t : NT}, Str t n → Str (tellsT t a l).1 n
  | [], _, h => h
  | b :: l, t, h => by
    rw [Nt.tellsT]; split
    · exact Str.tellsT a l (h.tellT a b)
    · exact h.tellT a b
theorem Str.linkOk {t : NT} {n a b : Nat} {c : Int} (h : Str t n) (ha : a < 6) (hb : b < 6) (hab : a ≠ b) (h0 : 0 ≤ c) (h1 : c ≤ 15) : Str (linkOk t a b c) n := by
  have key : ∀ (u v : Nat), u < 6 → v < 6 → u ≠ v → ∀ s : NS, s.me = u → Nice s → Run s n → (linkC s v c).1.cost = up s.cost v c ∧ (linkC s v c).1.wS u = s.wS u := by
    intro u v hu hv huv s hs hn hr
    have hc : (linkC s v c).2 = 0 := by
      unfold Nd.linkC
      rw [if_neg (by simp only [linkBad]; omega)]
    refine ⟨?_, ?_⟩
    · have := (linkC_cost_ok hc).2
      rwa [Int.toNat_natCast] at this
    · have := linkC_wSme s v c
      rwa [hs] at this
  obtain ⟨ka1, ka2⟩ := key a b ha hb hab (t.N a) (h.ok.me a ha) (h.nice a ha) (h.ok.run a ha)
  obtain ⟨kb1, kb2⟩ := key b a hb ha (Ne.symm hab) (t.N b) (h.ok.me b hb) (h.nice b hb) (h.ok.run b hb)
  -- all nodes, as they are then
  have hN : ∀ k, k < 6 → ∃ who, (upN (upN t.N a (Nd.linkC (t.N a) b c).1) b (Nd.linkC (t.N b) a c).1 k) = t.N k ∧ k ≠ a ∧ k ≠ b ∨ (k = a ∨ k = b) ∧ who < 6 ∧ (upN (upN t.N a (Nd.linkC (t.N a) b c).1) b (Nd.linkC (t.N b) a c).1 k) = (Nd.linkC (t.N k) ((who : Nat) : Int) c).1 ∧ (k = a → who = b) ∧ (k = b → who = a) := by
    intro k hk
    by_cases e : k = b
    · subst e
      exact ⟨a, .inr ⟨.inr rfl, ha, by rw [upN_same], fun h => absurd h.symm hab, fun _ => rfl⟩⟩
    · by_cases e' : k = a
      · subst e'
        exact ⟨b, .inr ⟨.inl rfl, hb, by rw [upN_other _ _ _ _ e, upN_same], fun _ => rfl, fun h => absurd h e⟩⟩
      · exact ⟨0, .inl ⟨by rw [upN_other _ _ _ _ e, upN_other _ _ _ _ e'], e', e⟩⟩
  have hage : ∀ k, k < 6 → age (Nt.linkOk t a b c) k = age t k := by
    intro k hk
    show (upN (upN t.N a _) b _ k).wS k = _
    obtain ⟨who, ⟨e, _⟩ | ⟨hh, _, e, e1, e2⟩⟩ := hN k hk
    · rw [e]; rfl
    · rw [e]
      have := linkC_wSme (t.N k) (who : Int) c
      rwa [h.ok.me k hk] at this
  have hnw : ∀ f k, f < 6 → NW (t.N f) (upN (upN t.N a (Nd.linkC (t.N a) b c).1) b (Nd.linkC (t.N b) a c).1 f) k := by
    intro f k hf
    obtain ⟨who, ⟨e, _⟩ | ⟨_, _, e, _⟩⟩ := hN f hf
    · rw [e]; exact NW.refl _ _
    · rw [e]; exact NW.linkC _ _ _ _
  refine ⟨h.ok.linkOk ha hb hab h0 h1, fun k hk => ?_, fun k j hk hj => ?_, fun k hk => ?_, fun k f j hk hf hj => ?_, fun x hx => ?_⟩
  · show Nice (upN (upN t.N a _) b _ k)
    obtain ⟨who, ⟨e, _⟩ | ⟨_, _, e, _⟩⟩ := hN k hk
    · rw [e]; exact h.nice k hk
    · rw [e]; exact (h.nice k hk).linkC (h.ok.run k hk).ok _ _
  · show (upN (upN t.N a _) b _ k).cost j = setC t.C a b c k j
    have hold := h.cost k j hk hj
    by_cases e : k = b
    · subst e
      rw [upN_same, kb1]
      simp only [up, setC, updC]
      by_cases e2 : j = a
      · rw [if_pos e2, if_pos ⟨trivial, e2⟩]
      · rw [if_neg e2, if_neg (fun h => e2 h.2), if_neg (fun h => hab h.1.symm)]; exact hold
    · by_cases e' : k = a
      · subst e'
        rw [upN_other _ _ _ _ e, upN_same, ka1]
        simp only [up, setC, updC]
        by_cases e2 : j = b
        · rw [if_pos e2, if_neg (fun h => e h.1), if_pos ⟨trivial, e2⟩]
        · rw [if_neg e2, if_neg (fun h => e h.1), if_neg (fun h => e2 h.2)]; exact hold
      · rw [upN_other _ _ _ _ e, upN_other _ _ _ _ e']
        simp only [setC, updC]
        rw [if_neg (fun h => e h.1), if_neg (fun h => e' h.1)]
        exact hold
  · show Cap (upN (upN t.N a _) b _ k) _
    have hc := (h.cap k hk).mono (U := age (Nt.linkOk t a b c)) (fun j hj => by rw [hage j hj]; exact Int.le_refl _)
    obtain ⟨who, ⟨e, _⟩ | ⟨_, _, e, _⟩⟩ := hN k hk
    · rw [e]; exact hc
    · rw [e]; exact hc.linkC (fun j hj => by rw [hage j hj]; exact h.age0 hj) _ _
  · show betB ((upN (upN t.N a _) b _ k).hS f j) ((upN (upN t.N a _) b _ k).hD f j) ((upN (upN t.N a _) b _ f).bS j) ((upN (upN t.N a _) b _ f).bD j) = false
    refine betB_trans ?_ (hnw f j hf)
    obtain ⟨who, ⟨e, _⟩ | ⟨_, _, e, _⟩⟩ := hN k hk
    · rw [e]; exact h.heard k f j hk hf hj
    · rw [e]
      rcases linkC_heard (s := t.N k) (who : Int) c f j with ⟨e1, e2⟩ | ⟨e1, e2⟩
      · rw [e1, e2]; exact h.heard k f j hk hf hj
      · rw [e1, e2]; exact betB_low (h.nice f hf) hj
  · obtain ⟨h1, h2, h3, h4, h5⟩ := h.news x hx
    have g1 := h1
    have g2 := h2
    unfold isN at g1 g2
    exact ⟨h1, h2, h3, by rw [hage _ (by omega)]; exact h4, betB_trans h5 (hnw _ _ (by omega))⟩
theorem lost_sub {t : NT} {k : Nat} {x : Nw} (h : x ∈ (lost t k).news) : x ∈ t.news := by
  rcases List.mem_append.1 h with h | h
  · exact List.mem_of_mem_take h
  · exact List.mem_of_mem_drop h
theorem Str.lost {t : NT} {n : Nat} (h : Str t n) (k : Nat) : Str (lost t k) n := h.sub (l := (Nt.lost t k).news) (fun _ hx => lost_sub hx) (h.ok.lost k).len
theorem Str.doT {t : NT} {n : Nat} (h : Str t n) (k a b c : Int) : Str (doT t k a b c).1 (n + 1) := by
  have hm := h.mono (Nat.le_succ n)
  unfold Nt.doT
  split
  · unfold Nt.linkT; split
    · exact hm
    · rename_i hb
      simp only [setBad, Classical.not_not] at hb
      exact hm.linkOk (by omega) (by omega) (by omega) (by omega) (by omega)
  · split
    · unfold Nt.tickT; split
      · exact hm
      · rename_i hn
        have hn : isN a := Classical.not_not.1 hn
        exact Str.tellsT a _ (h.tickOk (by unfold isN at hn; omega))
    · split
      · exact hm.tellT a b
      · split
        · unfold Nt.hearT; split
          · exact hm
          · rename_i ho
            have hx := nwAt_mem (out_no ho)
            exact Str.heardT (hm.lost _) (h.ok.g _ hx) (h.news _ hx)
        · split
          · unfold Nt.loseT; split
            · exact hm
            · exact hm.lost _
          · split
            · have hok := hm.ok.dblT c
              unfold Nt.dblT at *; split
              · exact hm
              · rename_i ho
                rw [if_neg ho] at hok
                split
                · exact hm
                · rename_i hl
                  rw [if_neg hl] at hok
                  refine hm.sub (fun x hx => ?_) hok.len
                  rcases List.mem_append.1 hx with hx | hx
                  · exact hx
                  · rw [List.mem_singleton.1 hx]; exact nwAt_mem (out_no ho)
            · exact hm
end Go.Proofs.YtffoilacaffdgaaGreatDoor.Nt
/- Walks over the document's own answer: IsPrefix, Has, First, Last, Less, IsHop; table.Hop. -/
namespace Go.Proofs.YtffoilacaffdgaaGreatDoor
open Go.RowKit Go.Deep

/-- Halved k times. -/
def hv (a : Int) : Nat → Int
  | 0 => a
  | k + 1 => hv a k / 2
theorem Hop_any (h : Int) (w : World) : Calls Tryz.prog 113 #[.int .i64 h] w (fun e w' => e = .returned (.bool (decide (Tb.hopOK h))) ∧ w = w') := by
  by_cases h1 : -1 ≤ h
  · by_cases h2 : h < 6
    · rw [decide_eq_true (show Tb.hopOK h from ⟨h1, h2⟩)]
      go_enter Tryz.func113, Tryz.ntmps113
      go_wp2
      go_ret
      exact ⟨rfl, rfl⟩
    · rw [decide_eq_false (fun k : Tb.hopOK h => h2 k.2)]
      go_enter Tryz.func113, Tryz.ntmps113
      go_wp2
      go_ret
      exact ⟨rfl, rfl⟩
  · rw [decide_eq_false (fun k : Tb.hopOK h => h1 k.1)]
    go_enter Tryz.func113, Tryz.ntmps113
    go_wp2
    go_ret
    exact ⟨rfl, rfl⟩
end Go.Proofs.YtffoilacaffdgaaGreatDoor
/- Walks: table.Check. -/
namespace Go.Proofs.YtffoilacaffdgaaGreatDoor
open Go.RowKit Go.Deep

/-- Routes from an address on. -/
def Rs (w : World) (a : Option Addr) (L : List Tb.Rt) : Prop := ∀ k, k < L.length → ∃ b off, a = some ⟨b, off, none⟩ ∧
  w.cell? ⟨b, off + k * 3, none⟩ = some (.int .i64 (Tb.nth L k).p.len) ∧ w.cell? ⟨b, off + k * 3 + 1, none⟩ = some (.int .i64 (Tb.nth L k).p.bits) ∧ w.cell? ⟨b, off + k * 3 + 2, none⟩ = some (.int .i64 (Tb.nth L k).hop)
theorem Rs.nil (w : World) (a : Option Addr) : Rs w a [] := fun k hk => absurd hk (by simp)
theorem Rs.keep {S : Nat → Prop} {w w' : World} {a : Option Addr} {L : List Tb.Rt} (h : Rs w a L) (hf : Fr S w w') (hS : ∀ p, a = some p → ¬ S p.block) : Rs w' a L := by
  intro k hk
  obtain ⟨b, off, h1, h2, h3, h4⟩ := h k hk
  exact ⟨b, off, h1, cell_fr' hf h2 (hS _ h1), cell_fr' hf h3 (hS _ h1), cell_fr' hf h4 (hS _ h1)⟩
theorem Rs.keep0 {w w' : World} {a : Option Addr} {L : List Tb.Rt} (h : Rs w a L) (hf : Fr NoB w w') : Rs w' a L := h.keep hf (fun _ _ h => h)

def CkRel (L : List Tb.Rt) (w : World) (i : Value) (wr : World) : Prop := ∃ k : Nat, k ≤ L.length ∧ i = .int .i64 k ∧ (∀ j, j < k → Tb.faultAt L j = 0) ∧ Fr NoB w wr
theorem chk_at {L : List Tb.Rt} {k : Nat} (h40 : ¬ 40 < L.length) (hk : k < L.length) (hz : ∀ j, j < k → Tb.faultAt L j = 0) {c : Int} (h : Tb.faultAt L k = c) (hc : c ≠ 0) : Tb.chk L = c := by
  unfold Tb.chk
  rw [if_neg h40, Tb.fF_hit L.length 0 k (Nat.zero_le _) (by omega) (fun j _ h2 => hz j h2) (by rw [h]; exact hc), h]
theorem chk_end {L : List Tb.Rt} {k : Nat} (h40 : ¬ 40 < L.length) (hk : ¬ k < L.length) (hz : ∀ j, j < k → Tb.faultAt L j = 0) : Tb.chk L = 0 := by
  unfold Tb.chk
  rw [if_neg h40, Tb.fF_zero L.length 0 (fun j _ h2 => hz j (by omega))]
set_option maxRecDepth 100000 in
set_option maxHeartbeats 4000000 in
theorem Check_all (a : Option Addr) (c : Nat) (L : List Tb.Rt) (w : World) (ha : Rs w a L) :
    Calls Tryz.prog 151 #[.slice a L.length c] w (IntFr (Tb.chk L) w) := by
  by_cases h40 : 40 < L.length
  · have E := Lib.hid (ret_int (k := .i64) (show (3 : Int) = Tb.chk L by unfold Tb.chk; rw [if_pos h40]))
    have hb : (40 : Int) < (L.length : Int) := by omega
    clear h40
    go_enter Tryz.func151, Tryz.ntmps151
    go_wp2
    go_ret
    exact ⟨E.out, Fr.refl _ _⟩
  · have hb : (L.length : Int) ≤ 40 := by omega
    have HA := Lib.hid ha; clear ha; have H40 := Lib.hid h40; clear h40
    go_enter Tryz.func151, Tryz.ntmps151
    go_wp2
    go_loopw [10] (fun i wr => CkRel L w i wr) (fun i _ => L.length - (intOf i).toNat)
    case atStart => exact ⟨0, by omega, rfl, fun j hj => by omega, Fr.refl _ _⟩
    case round =>
      obtain ⟨k, hk, rfl, hz, hf⟩ := hrel
      have HZ := Lib.hid hz; clear hz; have HF := Lib.hid hf; clear hf
      by_cases hkk : k < L.length
      · obtain ⟨b0, o0, rfl, c0, c1, c2⟩ := (HA.out.keep0 HF.out) k hkk
        generalize hr : Tb.nth L k = r at *
        obtain ⟨⟨l, b⟩, hop⟩ := r
        dsimp only at c0 c1 c2
        have HR := Lib.hid hr; clear hr
        go_upto_region 6 with fail
        refine wp_name fun w1 hw1 => ?_
        have d0 : w1.cell? ⟨wr.heap.size, 0, none⟩ = some (.int .i64 l) := by rw [hw1]; simp
        have d1 : w1.cell? ⟨wr.heap.size, 1, none⟩ = some (.int .i64 b) := by rw [hw1]; simp
        have d2 : w1.cell? ⟨wr.heap.size, 2, none⟩ = some (.int .i64 hop) := by rw [hw1]; simp
        have hF : Fr NoB wr w1 := by rw [hw1]; (repeat (first | exact Fr.refl _ _ | refine Fr.alloc ?_ _ | refine Fr.setNew ?_ (by omega) _ _ | refine Fr.drewN ?_ _ | refine Fr.drew ?_))
        clear hw1
        have HF1 := Lib.hid (HF.out.trans hF)
        clear c0 c1 c2 hF
        by_cases hok : Tb.ok ⟨l, b⟩
        · have hd := decide_eq_true hok
          have HD := Lib.hid hd; clear hd; have HOK := Lib.hid hok; clear hok
          go_wp2_with fail
          refine (Check_any l b _).mono ?_
          rw [HD.out]
          rintro e w2 ⟨rfl, hf⟩
          have d0 := cell_fr' hf d0 (fun h => h)
          have d1 := cell_fr' hf d1 (fun h => h)
          have d2 := cell_fr' hf d2 (fun h => h)
          have HF2 := Lib.hid (HF1.out.trans hf)
          clear hf HF1
          by_cases hho : Tb.hopOK hop
          · have hd2 := decide_eq_true hho
            have HD2 := Lib.hid hd2; clear hd2; have HHO := Lib.hid hho; clear hho
            go_wp2_with fail
            refine (Hop_any hop _).mono ?_
            rw [HD2.out]
            rintro e w3 ⟨rfl, rfl⟩
            cases k with
            | zero =>
              have hz0 : Tb.faultAt L 0 = 0 := by
                unfold Tb.faultAt
                rw [HR.out, if_neg (by simp [HOK.out, HHO.out]), if_neg (by simp), if_neg (by simp)]
              have HZ0 := Lib.hid hz0; clear hz0
              go_wp2
              go_quiet (fail)
              go_wp2
              go_quiet (fail)
              go_wp2
              go_roundw
              case rel => exact ⟨1, by omega, by go_num, fun j hj => by rw [show j = 0 from by omega]; exact HZ0.out, HF2.out.drewN _⟩
              case measure => simp [intOf]; omega
            | succ j =>
              obtain ⟨b1, o1, e', e0, e1, _⟩ := (HA.out.keep0 HF2.out) j (by omega)
              cases e'
              generalize hq : Tb.nth L j = q at *
              obtain ⟨⟨ql, qb⟩, qh⟩ := q
              dsimp only at e0 e1
              have HQ := Lib.hid hq; clear hq
              have hji : (j : Int) < (L.length : Int) := by omega
              have hj0 : (0 : Int) ≤ (j : Int) := by omega
              have hjw := IntWalk.i64_in (j : Int) (by omega)
              have hjw2 : IntKind.i64.wrap ((j : Int) + 1 - 1) = (j : Int) := by rw [IntWalk.i64_in _ (by omega)]; omega
              by_cases q1 : ql = l
              · by_cases q2 : qb = b
                · subst q1; subst q2
                  have hz : Tb.faultAt L (j + 1) = 5 := by
                    unfold Tb.faultAt
                    rw [HR.out, Nat.add_sub_cancel, HQ.out, if_neg (by simp [HOK.out, HHO.out]), if_pos ⟨by omega, rfl⟩]
                  have E := Lib.hid (ret_int (k := .i64) (chk_at H40.out hkk HZ.out hz (by omega)).symm)
                  clear hz
                  go_wp2
                  go_quiet (fail)
                  go_wp2
                  go_ret
                  exact ⟨E.out, HF2.out.drewN _⟩
                · have hq2 : (qb == b) = false := by simpa using q2
                  clear q1
                  have hj : Tb.faultAt L (j + 1) = if ¬ Tb.less ⟨ql, qb⟩ ⟨l, b⟩ then 4 else 0 := by
                    unfold Tb.faultAt
                    rw [HR.out, Nat.add_sub_cancel, HQ.out, if_neg (by simp [HOK.out, HHO.out]), if_neg (by intro h; have h := h.2; simp only [Tb.Pf.mk.injEq] at h; omega)]
                    simp
                  by_cases hls : Tb.less ⟨ql, qb⟩ ⟨l, b⟩
                  · have hls' := decide_eq_true hls
                    have HZ0 := Lib.hid (hj.trans (if_neg (fun h => h hls)))
                    clear hj
                    have HLS := Lib.hid hls'; clear hls'; have HL0 := Lib.hid hls; clear hls
                    go_wp2
                    go_quiet (fail)
                    go_wp2
                    go_region_held3 (fun W => W.cell? ⟨b0, o0 + j * 3, none⟩ = some (.int .i64 ql) ∧ W.cell? ⟨b0, o0 + j * 3 + 1, none⟩ = some (.int .i64 qb) ∧ W.cell? ⟨wr.heap.size, 0, none⟩ = some (.int .i64 l) ∧ W.cell? ⟨wr.heap.size, 1, none⟩ = some (.int .i64 b))
                      (first | exact ⟨t0, t1, t2, t3⟩ | exact ⟨e0, e1, d0, d1⟩)
                      (first | (go_at_call 144; have hh := HF2.out; clear hh; go_must (refine (Less_any _ _ _ _ _).mono ?_); go_must (rw [HLS.out]); go_must (rintro e w3 ⟨rfl, hf⟩); go_must (have t0 := cell_fr' hf e0 (fun h => h)); go_must (have t1 := cell_fr' hf e1 (fun h => h)); go_must (have t2 := cell_fr' hf d0 (fun h => h)); go_must (have t3 := cell_fr' hf d1 (fun h => h)); go_must (have HF3 := Lib.hid ((HF2.out.drewN _).drew.trans hf)); go_must (clear hf)))
                    all_goals (
                      go_wp2
                      go_roundw
                      case rel => exact ⟨j + 2, by omega, by go_num, fun i hi => by
                        by_cases e : i = j + 1
                        · rw [e]; exact HZ0.out
                        · exact HZ.out i (by omega), HF3.out⟩
                      case measure => simp [intOf]; omega)
                  · have hls' := decide_eq_false hls
                    have E := Lib.hid (ret_int (k := .i64) (chk_at H40.out hkk HZ.out (hj.trans (if_pos hls)) (by omega)).symm)
                    clear hj
                    have HLS := Lib.hid hls'; clear hls'; have HL0 := Lib.hid hls; clear hls
                    go_wp2
                    go_quiet (fail)
                    go_wp2
                    go_region_held3 (fun W => W.cell? ⟨b0, o0 + j * 3, none⟩ = some (.int .i64 ql) ∧ W.cell? ⟨b0, o0 + j * 3 + 1, none⟩ = some (.int .i64 qb) ∧ W.cell? ⟨wr.heap.size, 0, none⟩ = some (.int .i64 l) ∧ W.cell? ⟨wr.heap.size, 1, none⟩ = some (.int .i64 b))
                      (first | exact ⟨t0, t1, t2, t3⟩ | exact ⟨e0, e1, d0, d1⟩)
                      (first | (go_at_call 144; have hh := HF2.out; clear hh; go_must (refine (Less_any _ _ _ _ _).mono ?_); go_must (rw [HLS.out]); go_must (rintro e w3 ⟨rfl, hf⟩); go_must (have t0 := cell_fr' hf e0 (fun h => h)); go_must (have t1 := cell_fr' hf e1 (fun h => h)); go_must (have t2 := cell_fr' hf d0 (fun h => h)); go_must (have t3 := cell_fr' hf d1 (fun h => h)); go_must (have HF3 := Lib.hid ((HF2.out.drewN _).drew.trans hf)); go_must (clear hf)))
                    all_goals (
                      go_wp2
                      go_ret
                      exact ⟨E.out, HF3.out⟩)
              · have hq1 : (ql == l) = false := by simpa using q1
                have hj : Tb.faultAt L (j + 1) = if ¬ Tb.less ⟨ql, qb⟩ ⟨l, b⟩ then 4 else 0 := by
                  unfold Tb.faultAt
                  rw [HR.out, Nat.add_sub_cancel, HQ.out, if_neg (by simp [HOK.out, HHO.out]), if_neg (by intro h; have h := h.2; simp only [Tb.Pf.mk.injEq] at h; omega)]
                  simp
                by_cases hls : Tb.less ⟨ql, qb⟩ ⟨l, b⟩
                · have hls' := decide_eq_true hls
                  have HZ0 := Lib.hid (hj.trans (if_neg (fun h => h hls)))
                  clear hj
                  have HLS := Lib.hid hls'; clear hls'; have HL0 := Lib.hid hls; clear hls
                  go_wp2
                  go_quiet (fail)
                  go_wp2
                  go_region_held3 (fun W => W.cell? ⟨b0, o0 + j * 3, none⟩ = some (.int .i64 ql) ∧ W.cell? ⟨b0, o0 + j * 3 + 1, none⟩ = some (.int .i64 qb) ∧ W.cell? ⟨wr.heap.size, 0, none⟩ = some (.int .i64 l) ∧ W.cell? ⟨wr.heap.size, 1, none⟩ = some (.int .i64 b))
                    (first | exact ⟨t0, t1, t2, t3⟩ | exact ⟨e0, e1, d0, d1⟩)
                    (first | (go_at_call 144; have hh := HF2.out; clear hh; go_must (refine (Less_any _ _ _ _ _).mono ?_); go_must (rw [HLS.out]); go_must (rintro e w3 ⟨rfl, hf⟩); go_must (have t0 := cell_fr' hf e0 (fun h => h)); go_must (have t1 := cell_fr' hf e1 (fun h => h)); go_must (have t2 := cell_fr' hf d0 (fun h => h)); go_must (have t3 := cell_fr' hf d1 (fun h => h)); go_must (have HF3 := Lib.hid ((HF2.out.drewN _).drew.trans hf)); go_must (clear hf)))
                  all_goals (
                    go_wp2
                    go_roundw
                    case rel => exact ⟨j + 2, by omega, by go_num, fun i hi => by
                      by_cases e : i = j + 1
                      · rw [e]; exact HZ0.out
                      · exact HZ.out i (by omega), HF3.out⟩
                    case measure => simp [intOf]; omega)
                · have hls' := decide_eq_false hls
                  have E := Lib.hid (ret_int (k := .i64) (chk_at H40.out hkk HZ.out (hj.trans (if_pos hls)) (by omega)).symm)
                  clear hj
                  have HLS := Lib.hid hls'; clear hls'; have HL0 := Lib.hid hls; clear hls
                  go_wp2
                  go_quiet (fail)
                  go_wp2
                  go_region_held3 (fun W => W.cell? ⟨b0, o0 + j * 3, none⟩ = some (.int .i64 ql) ∧ W.cell? ⟨b0, o0 + j * 3 + 1, none⟩ = some (.int .i64 qb) ∧ W.cell? ⟨wr.heap.size, 0, none⟩ = some (.int .i64 l) ∧ W.cell? ⟨wr.heap.size, 1, none⟩ = some (.int .i64 b))
                    (first | exact ⟨t0, t1, t2, t3⟩ | exact ⟨e0, e1, d0, d1⟩)
                    (first | (go_at_call 144; have hh := HF2.out; clear hh; go_must (refine (Less_any _ _ _ _ _).mono ?_); go_must (rw [HLS.out]); go_must (rintro e w3 ⟨rfl, hf⟩); go_must (have t0 := cell_fr' hf e0 (fun h => h)); go_must (have t1 := cell_fr' hf e1 (fun h => h)); go_must (have t2 := cell_fr' hf d0 (fun h => h)); go_must (have t3 := cell_fr' hf d1 (fun h => h)); go_must (have HF3 := Lib.hid ((HF2.out.drewN _).drew.trans hf)); go_must (clear hf)))
                  all_goals (
                    go_wp2
                    go_ret
                    exact ⟨E.out, HF3.out⟩)
          · have hd2 := decide_eq_false hho
            have hz : Tb.faultAt L k = 1 := by
              unfold Tb.faultAt
              rw [HR.out, if_pos (.inr hho)]
            have E := Lib.hid (ret_int (k := .i64) (chk_at H40.out hkk HZ.out hz (by omega)).symm)
            clear hz
            have HD2 := Lib.hid hd2; clear hd2; have HHO := Lib.hid hho; clear hho
            go_wp2_with fail
            refine (Hop_any hop _).mono ?_
            rw [HD2.out]
            rintro e w3 ⟨rfl, rfl⟩
            go_wp2
            go_ret
            exact ⟨E.out, HF2.out⟩
        · have hd := decide_eq_false hok
          have hz : Tb.faultAt L k = 1 := by
            unfold Tb.faultAt
            rw [HR.out, if_pos (.inl hok)]
          have E := Lib.hid (ret_int (k := .i64) (chk_at H40.out hkk HZ.out hz (by omega)).symm)
          clear hz
          have HD := Lib.hid hd; clear hd; have HOK := Lib.hid hok; clear hok
          go_wp2_with fail
          refine (Check_any l b _).mono ?_
          rw [HD.out]
          rintro e w2 ⟨rfl, hf⟩
          have HF2 := Lib.hid (HF1.out.trans hf)
          clear hf
          go_wp2
          go_ret
          exact ⟨E.out, HF2.out⟩
      · have E := Lib.hid (ret_int (k := .i64) (chk_end H40.out hkk HZ.out).symm)
        go_wp2
        go_ret
        exact ⟨E.out, HF.out⟩
end Go.Proofs.YtffoilacaffdgaaGreatDoor
/- Of a row of routes: where a prefix stands, or would stand. -/
namespace Go.Proofs.YtffoilacaffdgaaGreatDoor.Tb

def cmp (r p : Pf) : Int := if less r p then -1 else if less p r then 1 else 0
/-- A place ahead of which all are less, and behind which none is. -/
def Place (L : List Rt) (p : Pf) (i : Nat) : Prop := i ≤ L.length ∧ (∀ t, t < i → less (nth L t).p p) ∧ (∀ t, i ≤ t → t < L.length → ¬ less (nth L t).p p)
theorem place_lo {L : List Rt} {p : Pf} {i : Nat} (h : Place L p i) : lo L p = L.take i ∧ (lo L p).length = i := by
  have h1 : lo L p = L.take i := by
    unfold lo
    conv => lhs; rw [← List.take_append_drop i L]
    rw [List.filter_append]
    have e1 : (L.take i).filter (fun r => decide (less r.p p)) = L.take i := by
      rw [List.filter_eq_self]
      intro r hr
      obtain ⟨t, ht, rfl⟩ := List.getElem_of_mem hr
      have h2 := h.2.1 t (by simp at ht; omega)
      rw [nth_eq (by simp at ht; omega)] at h2
      simpa using h2
    have e2 : (L.drop i).filter (fun r => decide (less r.p p)) = [] := by
      rw [List.filter_eq_nil_iff]
      intro r hr
      obtain ⟨t, ht, rfl⟩ := List.getElem_of_mem hr
      have h2 := h.2.2 (i + t) (by omega) (by simp at ht; omega)
      rw [nth_eq (by simp at ht; omega)] at h2
      simpa using h2
    rw [e1, e2, List.append_nil]
  refine ⟨h1, ?_⟩
  rw [h1, List.length_take]
  have := h.1
  omega
theorem mono_less {L : List Rt} (h : Wf L) {p : Pf} {s t : Nat} (hst : s ≤ t) (ht : t < L.length) (hl : less (nth L t).p p) : less (nth L s).p p := by
  by_cases e : s = t
  · subst e; exact hl
  · have := List.pairwise_iff_getElem.1 h.2 s t (by omega) ht (by omega)
    rw [← nth_eq (by omega : s < L.length), ← nth_eq ht] at this
    exact less_trans this hl
theorem found_iff {L : List Rt} (h : Wf L) {p : Pf} {i : Nat} (hi : Place L p i) : (decide (i < L.length) && decide (cmp (nth L i).p p = 0)) = decide (get L p ≠ -2) := by
  by_cases hp : Tb.ok p
  · obtain ⟨e1, e2⟩ := place_lo hi
    rcases split_wf h hp with ⟨g1, g2, g3⟩ | ⟨g1, g2, g3⟩
    · rw [decide_eq_false (by simp [g1] : ¬ get L p ≠ -2)]
      by_cases hil : i < L.length
      · have h1 := hi.2.2 i (Nat.le_refl _) hil
        have h2 := g3 _ (nth_mem hil)
        have h3 : less p (nth L i).p := by
          by_cases k : less p (nth L i).p
          · exact k
          · exact absurd (less_total (h.ok (nth_mem hil)) hp h1 k) h2
        unfold cmp
        rw [if_neg h1, if_pos h3]
        simp
      · simp [hil]
    · rw [decide_eq_true g1]
      have hil : i < L.length := by
        have := congrArg List.length g3
        rw [List.length_append, List.length_cons, e2] at this
        omega
      have hn : nth L i = ⟨p, get L p⟩ := by
        have : L[i]? = some ⟨p, get L p⟩ := by
          conv => lhs; rw [g3]
          rw [List.getElem?_append_right (by omega), e2]; simp
        unfold nth; rw [List.getD_eq_getElem?_getD, this]; rfl
      rw [hn]
      unfold cmp
      simp [hil, less_irrefl]
  · rw [get_no hp]
    by_cases hil : i < L.length
    · have h1 := hi.2.2 i (Nat.le_refl _) hil
      have h3 : less p (nth L i).p := less_no hp (h.ok (nth_mem hil))
      unfold cmp
      rw [if_neg h1, if_pos h3]
      simp
    · simp [hil]
theorem found_nth {L : List Rt} (h : Wf L) {p : Pf} (hg : get L p ≠ -2) : Tb.ok p ∧ (lo L p).length < L.length ∧ nth L (lo L p).length = ⟨p, get L p⟩ ∧ lo L p = L.take (lo L p).length ∧ hi L p = L.drop ((lo L p).length + 1) := by
  have hp : Tb.ok p := by
    by_cases k : Tb.ok p
    · exact k
    · exact absurd (get_no k) hg
  rcases split_wf h hp with ⟨g1, _, _⟩ | ⟨_, _, g3⟩
  · exact absurd g1 hg
  · refine ⟨hp, ?_⟩
    generalize lo L p = A at *
    generalize hi L p = C at *
    generalize get L p = g at *
    subst g3
    refine ⟨by simp, ?_, by simp, by simp⟩
    unfold nth
    rw [List.getD_eq_getElem?_getD, List.getElem?_append_right (Nat.le_refl _)]
    simp
theorem notfound_split {L : List Rt} (h : Wf L) {p : Pf} (hp : Tb.ok p) (hg : get L p = -2) : lo L p = L.take (lo L p).length ∧ hi L p = L.drop (lo L p).length := by
  rcases split_wf h hp with ⟨_, g2, _⟩ | ⟨g1, _, _⟩
  · generalize lo L p = A at *
    generalize hi L p = C at *
    clear hg h
    subst g2
    exact ⟨by simp, by simp⟩
  · exact absurd hg g1
end Go.Proofs.YtffoilacaffdgaaGreatDoor.Tb
/- Walks: the comparison of (*Table).at, slices.BinarySearchFunc, (*Table).at. -/
namespace Go.Proofs.YtffoilacaffdgaaGreatDoor
open Go.RowKit Go.Deep

set_option maxHeartbeats 4000000 in
theorem cmp_any (l b h m c : Int) (w : World) :
    Calls Tryz.prog 143 #[.agg #[.int .i64 l, .int .i64 b, .int .i64 h], .agg #[.int .i64 m, .int .i64 c]] w (IntFr (Tb.cmp ⟨l, b⟩ ⟨m, c⟩) w) := by
  have key : ∃ r s : Bool, decide (Tb.less ⟨l, b⟩ ⟨m, c⟩) = r ∧ decide (Tb.less ⟨m, c⟩ ⟨l, b⟩) = s ∧ Tb.cmp ⟨l, b⟩ ⟨m, c⟩ = if r then -1 else if s then 1 else 0 := by
    refine ⟨_, _, rfl, rfl, ?_⟩
    unfold Tb.cmp
    simp only [decide_eq_true_eq]
  obtain ⟨r, s, h1, h2, h3⟩ := key
  have H1 := Lib.hid h1; clear h1; have H2 := Lib.hid h2; clear h2
  have HC := Lib.hid (ret_int (k := .i64) h3.symm)
  clear h3
  go_enter Tryz.func143, Tryz.ntmps143
  go_upto_region 1 with fail
  refine wp_name fun w1 hw1 => ?_
  have c0 : w1.cell? ⟨w.heap.size, 0, none⟩ = some (.int .i64 l) := by rw [hw1]; simp
  have c1 : w1.cell? ⟨w.heap.size, 1, none⟩ = some (.int .i64 b) := by rw [hw1]; simp
  have d0 : w1.cell? ⟨w.heap.size + 1, 0, none⟩ = some (.int .i64 m) := by rw [hw1]; simp
  have d1 : w1.cell? ⟨w.heap.size + 1, 1, none⟩ = some (.int .i64 c) := by rw [hw1]; simp
  have hF : Fr NoB w w1 := by rw [hw1]; (repeat (first | exact Fr.refl _ _ | refine Fr.alloc ?_ _ | refine Fr.setNew ?_ (by omega) _ _ | refine Fr.drewN ?_ _ | refine Fr.drew ?_))
  clear hw1
  have HF := Lib.hid hF; clear hF
  go_wp2_with fail
  refine (Less_any l b m c _).mono ?_
  rw [H1.out]
  rintro e w2 ⟨rfl, hf⟩
  have c0 := cell_fr' hf c0 (fun h => h)
  have c1 := cell_fr' hf c1 (fun h => h)
  have d0 := cell_fr' hf d0 (fun h => h)
  have d1 := cell_fr' hf d1 (fun h => h)
  have HF1 := Lib.hid (HF.out.trans hf)
  clear hf
  cases r with
  | true =>
    go_wp2
    go_ret
    exact ⟨HC.out, HF1.out⟩
  | false =>
    go_wp2_with fail
    refine (Less_any m c l b _).mono ?_
    rw [H2.out]
    rintro e w3 ⟨rfl, hf⟩
    have HF2 := Lib.hid (HF1.out.trans hf)
    clear hf
    cases s with
    | true =>
      go_wp2
      go_ret
      exact ⟨HC.out, HF2.out⟩
    | false =>
      go_wp2
      go_ret
      exact ⟨HC.out, HF2.out⟩
def BsPost (L : List Tb.Rt) (p : Tb.Pf) (w : World) (e : Ending) (w' : World) : Prop :=
  ∃ i : Nat, e = .returned (.tuple #[.int .i64 i, .bool (decide (i < L.length) && decide (Tb.cmp (Tb.nth L i).p p = 0))]) ∧ Tb.Place L p i ∧ Fr NoB w w'
def BsRel (L : List Tb.Rt) (p : Tb.Pf) (b : Nat) (w : World) (lo hi : Nat) (wr : World) : Prop :=
  (∀ t, t < lo → Tb.less (Tb.nth L t).p p) ∧ (∀ t, hi ≤ t → t < L.length → ¬ Tb.less (Tb.nth L t).p p) ∧ wr.cell? ⟨b, 0, none⟩ = some (.int .i64 p.len) ∧ wr.cell? ⟨b, 1, none⟩ = some (.int .i64 p.bits) ∧ Fr NoB w wr
theorem cmp_neg (r p : Tb.Pf) : (Tb.cmp r p < 0) ↔ Tb.less r p := by
  unfold Tb.cmp
  split
  · simp [*]
  · split <;> simp [*]
set_option maxRecDepth 100000 in
set_option maxHeartbeats 4000000 in
theorem Bs_any (a : Option Addr) (c : Nat) (L : List Tb.Rt) (l b : Int) (w : World) (hl : L.length ≤ 1000) (ha : Rs w a L) (hm : ∀ s t, s ≤ t → t < L.length → Tb.less (Tb.nth L t).p ⟨l, b⟩ → Tb.less (Tb.nth L s).p ⟨l, b⟩) :
    Calls Tryz.prog 142 #[.slice a L.length c, .agg #[.int .i64 l, .int .i64 b], .func (.func 143) #[] #[]] w (BsPost L ⟨l, b⟩ w) := by
  have HA := Lib.hid ha; clear ha; have HM := Lib.hid hm; clear hm
  go_enter Tryz.func142, Tryz.ntmps142
  go_wp2
  go_loopg [9, 10] L.length (fun kx s9 s10 wr => ∃ lo hi : Nat, s9 = .int .i64 lo ∧ s10 = .int .i64 hi ∧ lo ≤ hi ∧ hi ≤ L.length ∧ hi - lo ≤ kx ∧ Hid (BsRel L ⟨l, b⟩ w.heap.size w lo hi wr))
  case atStart => exact ⟨0, L.length, rfl, rfl, Nat.zero_le _, Nat.le_refl _, by omega, ⟨fun t ht => absurd ht (Nat.not_lt_zero _), fun t h1 h2 => by omega, box0 .., box1 .., (Fr.refl _ _).alloc _⟩⟩
  case round =>
    obtain ⟨lo, hi, rfl, rfl, hlh, hin, hg, HR⟩ := hrel
    have p0 := HR.out.2.2.1
    have p1 := HR.out.2.2.2.1
    have HF := Lib.hid HR.out.2.2.2.2
    dsimp only at p0 p1
    by_cases hlt : lo < hi
    · obtain ⟨mi, hmi⟩ : ∃ mi, mi = (lo + hi) / 2 := ⟨_, rfl⟩
      have hmm : ((lo : Int) + (hi : Int)) / 2 = (mi : Int) := by omega
      have hm1 : lo ≤ mi := by omega
      have hm2 : mi < hi := by omega
      have hmn : mi < L.length := by omega
      clear hmi
      obtain ⟨b0, o0, rfl, c0, c1, c2⟩ := (HA.out.keep0 HF.out) mi hmn
      generalize hr : Tb.nth L mi = r at *
      obtain ⟨⟨x, y⟩, z⟩ := r
      dsimp only at c0 c1 c2
      have HQ := Lib.hid hr; clear hr
      have i1 : (mi : Int) < (L.length : Int) := by omega
      have hi2 : (hi : Int) ≤ 1000 := by omega
      have HMM := Lib.hid hmm; clear hmm
      go_upto_region 5 with fail
      rw [HMM.out]
      generalize hcm : Tb.cmp ⟨x, y⟩ ⟨l, b⟩ = cv
      have HCM := Lib.hid hcm; clear hcm
      have hcv : cv = -1 ∨ cv = 1 ∨ cv = 0 := by rw [← HCM.out]; unfold Tb.cmp; split; simp; split <;> simp
      have HCV := Lib.hid hcv; clear hcv
      go_region_held3 (fun W => W.cell? ⟨b0, o0 + mi * 3, none⟩ = some (.int .i64 x) ∧ W.cell? ⟨b0, o0 + mi * 3 + 1, none⟩ = some (.int .i64 y) ∧ W.cell? ⟨b0, o0 + mi * 3 + 2, none⟩ = some (.int .i64 z) ∧ W.cell? ⟨w.heap.size, 0, none⟩ = some (.int .i64 l) ∧ W.cell? ⟨w.heap.size, 1, none⟩ = some (.int .i64 b))
        (first | exact ⟨s0, s1, s2, t0, t1⟩ | exact ⟨c0, c1, c2, p0, p1⟩)
        (first | (go_at_call 143; have hh := HF.out; clear hh; go_must (refine (cmp_any _ _ _ _ _ _).mono ?_); go_must (rintro e w2 ⟨rfl, hf⟩); go_must (rw [HCM.out]); go_must (have s0 := cell_fr' hf c0 (fun h => h)); go_must (have s1 := cell_fr' hf c1 (fun h => h)); go_must (have s2 := cell_fr' hf c2 (fun h => h)); go_must (have t0 := cell_fr' hf p0 (fun h => h)); go_must (have t1 := cell_fr' hf p1 (fun h => h)); go_must (have HF1 := Lib.hid (HF.out.drew.trans hf)); go_must (clear hf)))
      have hless : cv < 0 ↔ Tb.less ⟨x, y⟩ ⟨l, b⟩ := by rw [← HCM.out]; exact cmp_neg _ _
      by_cases hc0 : cv < 0
      · have hd := decide_eq_true hc0
        have HL := Lib.hid (hless.1 hc0)
        clear hless
        go_wp2
        go_roundg (hi - (mi + 1))
        case measure => omega
        case rel =>
          exact ⟨mi + 1, hi, by rw [show ((mi : Int) + 1) = ((mi + 1 : Nat) : Int) by omega], rfl, by omega, hin, Nat.le_refl _, ⟨fun t ht => HM.out t mi (by omega) (by omega) (by rw [HQ.out]; exact HL.out), HR.out.2.1, t0, t1, HF1.out⟩⟩
      · have hd := decide_eq_false hc0
        have HL := Lib.hid (fun h => hc0 (hless.2 h))
        clear hless
        go_wp2
        go_roundg (mi - lo)
        case measure => omega
        case rel =>
          exact ⟨lo, mi, rfl, rfl, by omega, by omega, Nat.le_refl _, ⟨HR.out.1, fun t h1 h2 h3 => HL.out (by have := HM.out mi t h1 h2 h3; rwa [HQ.out] at this), t0, t1, HF1.out⟩⟩
    · obtain rfl : hi = lo := by omega
      have hpl : Tb.Place L ⟨l, b⟩ hi := ⟨hin, HR.out.1, HR.out.2.1⟩
      have HP := Lib.hid hpl; clear hpl
      by_cases hn : hi < L.length
      · obtain ⟨b0, o0, rfl, c0, c1, c2⟩ := (HA.out.keep0 HF.out) hi hn
        generalize hr : Tb.nth L hi = r at *
        obtain ⟨⟨x, y⟩, z⟩ := r
        dsimp only at c0 c1 c2
        generalize hcm : Tb.cmp ⟨x, y⟩ ⟨l, b⟩ = cv
        have hcv : cv = -1 ∨ cv = 1 ∨ cv = 0 := by rw [← hcm]; unfold Tb.cmp; split; simp; split <;> simp
        have he : (decide (hi < L.length) && decide (Tb.cmp (Tb.nth L hi).p ⟨l, b⟩ = 0)) = (cv == 0) := by
          rw [hr, decide_eq_true hn, Bool.true_and]
          show decide (Tb.cmp ⟨x, y⟩ ⟨l, b⟩ = 0) = _
          rw [hcm]
          rcases hcv with rfl | rfl | rfl <;> rfl
        have HE := Lib.hid he; clear he hr hcv
        have HCM := Lib.hid hcm; clear hcm
        have hni : (hi : Int) < (L.length : Int) := by omega
        have hnd := decide_eq_true hni
        go_wp2
        go_region_held3 (fun W => W.cell? ⟨b0, o0 + hi * 3, none⟩ = some (.int .i64 x) ∧ W.cell? ⟨b0, o0 + hi * 3 + 1, none⟩ = some (.int .i64 y) ∧ W.cell? ⟨b0, o0 + hi * 3 + 2, none⟩ = some (.int .i64 z) ∧ W.cell? ⟨w.heap.size, 0, none⟩ = some (.int .i64 l) ∧ W.cell? ⟨w.heap.size, 1, none⟩ = some (.int .i64 b))
          (first | exact ⟨s0, s1, s2, t0, t1⟩ | exact ⟨c0, c1, c2, p0, p1⟩)
          (first | (go_at_call 143; have hh := HF.out; clear hh; go_must (refine (cmp_any _ _ _ _ _ _).mono ?_); go_must (rintro e w2 ⟨rfl, hf⟩); go_must (rw [HCM.out]); go_must (have s0 := cell_fr' hf c0 (fun h => h)); go_must (have s1 := cell_fr' hf c1 (fun h => h)); go_must (have s2 := cell_fr' hf c2 (fun h => h)); go_must (have t0 := cell_fr' hf p0 (fun h => h)); go_must (have t1 := cell_fr' hf p1 (fun h => h)); go_must (have HF1 := Lib.hid (HF.out.drew.trans hf)); go_must (clear hf)))
        all_goals (
          go_wp2
          refine bodyPost_ret (v := .tuple #[.int .i64 hi, .bool (cv == 0)]) ?_ rfl ⟨hi, by rw [HE.out], HP.out, HF1.out⟩
          simp [results, Tryz.results142, go_sem])
      · have he : (decide (hi < L.length) && decide (Tb.cmp (Tb.nth L hi).p ⟨l, b⟩ = 0)) = false := by simp [hn]
        have HE := Lib.hid he; clear he
        have hni : ¬ (hi : Int) < (L.length : Int) := by omega
        have hnd := decide_eq_false hni
        go_wp2
        go_quiet (fail)
        go_wp2
        refine bodyPost_ret (v := .tuple #[.int .i64 hi, .bool false]) ?_ rfl ⟨hi, by rw [HE.out], HP.out, HF.out.drewN _⟩
        simp [results, Tryz.results142, go_sem]
def AtPost (L : List Tb.Rt) (p : Tb.Pf) (w : World) (e : Ending) (w' : World) : Prop :=
  e = .returned (.tuple #[.int .i64 ((Tb.lo L p).length : Nat), .bool (decide (Tb.get L p ≠ -2))]) ∧ Fr NoB w w'
set_option maxRecDepth 100000 in
set_option maxHeartbeats 4000000 in
theorem at_any (t : Nat) (a : Option Addr) (c : Nat) (L : List Tb.Rt) (l b : Int) (w : World) (hl : L.length ≤ 1000) (hw : Tb.Wf L) (ha : Rs w a L) (hc : w.cell? ⟨t, 0, none⟩ = some (.slice a L.length c)) :
    Calls Tryz.prog 112 #[.pointer (some ⟨t, 0, none⟩), .agg #[.int .i64 l, .int .i64 b]] w (AtPost L ⟨l, b⟩ w) := by
  have HA := Lib.hid ha; clear ha; have HW := Lib.hid hw; clear hw
  go_enter Tryz.func112, Tryz.ntmps112
  go_upto_region 1 with fail
  refine wp_name fun w1 hw1 => ?_
  have c0 : w1.cell? ⟨w.heap.size, 0, none⟩ = some (.int .i64 l) := by rw [hw1]; simp
  have c1 : w1.cell? ⟨w.heap.size, 1, none⟩ = some (.int .i64 b) := by rw [hw1]; simp
  have hF : Fr NoB w w1 := by rw [hw1]; (repeat (first | exact Fr.refl _ _ | refine Fr.alloc ?_ _ | refine Fr.setNew ?_ (by omega) _ _ | refine Fr.drewN ?_ _ | refine Fr.drew ?_))
  have c2 := cell_fr' hF hc (fun h => h)
  clear hw1
  have HF := Lib.hid hF; clear hF
  go_region_held3 (fun W => W.cell? ⟨t, 0, none⟩ = some (.slice a L.length c) ∧ W.cell? ⟨w.heap.size, 0, none⟩ = some (.int .i64 l) ∧ W.cell? ⟨w.heap.size, 1, none⟩ = some (.int .i64 b))
    (first | exact ⟨t0, t1, t2⟩ | exact ⟨c2, c0, c1⟩)
    (first | (go_at_call 142; have hh := HF.out; clear hh; go_must (refine (Bs_any a c L l b _ hl (Rs.keep0 (Rs.keep0 HA.out HF.out) (Fr.drew (Fr.refl _ _))) (fun s t h1 h2 h3 => Tb.mono_less HW.out h1 h2 h3)).mono ?_); go_must (rintro e w2 ⟨i, rfl, hpl, hf⟩); go_must (have t0 := cell_fr' hf c2 (fun h => h)); go_must (have t1 := cell_fr' hf c0 (fun h => h)); go_must (have t2 := cell_fr' hf c1 (fun h => h)); go_must (have HF1 := Lib.hid (HF.out.drew.trans hf)); go_must (have HP := Lib.hid hpl); go_must (clear hf hpl)))
  all_goals (
    have he : Ending.returned (.tuple #[.int .i64 (i : Nat), .bool (decide (i < L.length) && decide (Tb.cmp (Tb.nth L i).p ⟨l, b⟩ = 0))]) = .returned (.tuple #[.int .i64 ((Tb.lo L ⟨l, b⟩).length : Nat), .bool (decide (Tb.get L ⟨l, b⟩ ≠ -2))]) := by
      rw [(Tb.place_lo HP.out).2, Tb.found_iff HW.out HP.out]
    have HE := Lib.hid he; clear he
    generalize (decide (i < L.length) && decide (Tb.cmp (Tb.nth L i).p ⟨l, b⟩ = 0)) = bb at *
    go_wp2
    refine bodyPost_ret (v := .tuple #[.int .i64 i, .bool bb]) ?_ rfl ⟨HE.out, HF1.out⟩
    simp [results, Tryz.results112, go_sem])
end Go.Proofs.YtffoilacaffdgaaGreatDoor
