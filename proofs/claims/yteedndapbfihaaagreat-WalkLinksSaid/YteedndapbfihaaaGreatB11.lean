/- Walks over package net: Do. -/
import Derived.Test.YteedndapbfihaaaGreatB10
import Derived.Test.YteedndapbfihaaaGreatB9
namespace Go.Proofs.YteedndapbfihaaaGreat
open Go.RowKit Go.Deep

theorem NtDo.after {x : Ids} {v : Value} {t : Nt.NT} {c : Int} {w w0 w' : World} {e : Ending} (hf : Fr NoB w w0) (h : NtDo x v t c w0 e w') : NtDo x v t c w e w' := by
  obtain ⟨v', he, ha, hf', hg⟩ := h
  exact ⟨v', he, ha, (hf.mono (fun _ _ h => h.elim)).trans hf', fun g hg' => by rcases hg g hg' with h | h; exact .inl h; exact .inr (by have := hf.size; omega)⟩
def step6 (k a b n pl pb : Int) : Value := .agg #[.int .i64 k, .int .i64 a, .int .i64 b, .int .i64 n, .int .i64 pl, .int .i64 pb]
def DoSaid (x : Ids) (v : Value) (t : Nt.NT) (k a b n pl pb : Int) (w : World) : Prop :=
  Calls Tryz.prog 56 #[.pointer (some ⟨x.b, 0, none⟩), step6 k a b n pl pb] w (NtDo x v (Nt.doT t k a b n).1 (Nt.doT t k a b n).2 w)

set_option maxRecDepth 100000 in
set_option maxHeartbeats 4000000 in
theorem Do_link (x : Ids) (v : Value) (t : Nt.NT) (a b n pl pb : Int) (m : Nat) (w : World) (hr : Nt.NOk t m) (h : NtAt w x v t) : DoSaid x v t 1 a b n pl pb w := by
  have e : Nt.doT t 1 a b n = Nt.linkT t a b n := rfl
  unfold DoSaid step6
  rw [e]
  have H := Lib.hid h; clear h; have HR := Lib.hid hr; clear hr
  clear e
  go_enter Tryz.func56, Tryz.ntmps56
  go_wp2_with fail
  refine (Nlink_any x v t a b n m _ HR.out (H.out.keep0 ((Fr.refl _ _).alloc _))).mono ?_
  rintro e w1 hd
  have hd := NtDo.after ((Fr.refl _ w).alloc _) hd
  obtain ⟨v', rfl, ha, hf, hg⟩ := hd
  have HA := Lib.hid ha; clear ha; have HF := Lib.hid hf; clear hf; have HG := Lib.hid hg; clear hg
  go_wp2
  go_ret
  exact ⟨v', rfl, HA.out, HF.out, HG.out⟩
set_option maxRecDepth 100000 in
set_option maxHeartbeats 4000000 in
theorem Do_tick (x : Ids) (v : Value) (t : Nt.NT) (a b n pl pb : Int) (m : Nat) (w : World) (hr : Nt.NOk t m) (hm : m ≤ 1000) (h : NtAt w x v t) : DoSaid x v t 2 a b n pl pb w := by
  have e : Nt.doT t 2 a b n = Nt.tickT t a := rfl
  unfold DoSaid step6
  rw [e]
  have H := Lib.hid h; clear h; have HR := Lib.hid hr; clear hr; have HM := Lib.hid hm; clear hm
  clear e
  go_enter Tryz.func56, Tryz.ntmps56
  go_wp2_with fail
  refine (Ntick_any x v t a m _ HR.out HM.out (H.out.keep0 ((Fr.refl _ _).alloc _))).mono ?_
  rintro e w1 hd
  have hd := NtDo.after ((Fr.refl _ w).alloc _) hd
  obtain ⟨v', rfl, ha, hf, hg⟩ := hd
  have HA := Lib.hid ha; clear ha; have HF := Lib.hid hf; clear hf; have HG := Lib.hid hg; clear hg
  go_wp2
  go_ret
  exact ⟨v', rfl, HA.out, HF.out, HG.out⟩
set_option maxRecDepth 100000 in
set_option maxHeartbeats 4000000 in
theorem Do_tell (x : Ids) (v : Value) (t : Nt.NT) (a b n pl pb : Int) (m : Nat) (w : World) (hr : Nt.NOk t m) (h : NtAt w x v t) : DoSaid x v t 3 a b n pl pb w := by
  have e : Nt.doT t 3 a b n = Nt.tellT t a b := rfl
  unfold DoSaid step6
  rw [e]
  have H := Lib.hid h; clear h; have HR := Lib.hid hr; clear hr
  clear e
  go_enter Tryz.func56, Tryz.ntmps56
  go_wp2_with fail
  refine (Ntell_any x v t a b m _ HR.out (H.out.keep0 ((Fr.refl _ _).alloc _))).mono ?_
  rintro e w1 hd
  have hd := NtDo.after ((Fr.refl _ w).alloc _) hd
  obtain ⟨v', rfl, ha, hf, hg⟩ := hd
  have HA := Lib.hid ha; clear ha; have HF := Lib.hid hf; clear hf; have HG := Lib.hid hg; clear hg
  go_wp2
  go_ret
  exact ⟨v', rfl, HA.out, HF.out, HG.out⟩
set_option maxRecDepth 100000 in
set_option maxHeartbeats 4000000 in
theorem Do_lose (x : Ids) (v : Value) (t : Nt.NT) (a b n pl pb : Int) (m : Nat) (w : World) (hr : Nt.NOk t m) (h : NtAt w x v t) : DoSaid x v t 5 a b n pl pb w := by
  have e : Nt.doT t 5 a b n = Nt.loseT t n := rfl
  unfold DoSaid step6
  rw [e]
  clear e
  by_cases ho : Nt.out t n
  · have e : Nt.loseT t n = (t, 6) := by rw [Nt.loseT, if_pos ho]
    rw [e]
    clear e
    have H := Lib.hid h; clear h; have HR := Lib.hid hr; clear hr; have HO := Lib.hid ho; clear ho
    go_enter Tryz.func56, Tryz.ntmps56
    go_wp2_with fail
    refine (take_no x v t n _ HO.out (H.out.keep0 ((Fr.refl _ _).alloc _))).mono ?_
    rintro e w1 ⟨rfl, hf⟩
    have hf := ((Fr.refl NoB w).alloc _).trans hf
    unfold nw5
    have HF := Lib.hid hf; clear hf
    go_wp2
    go_ret
    exact NtDo.none (H.out.keep0 (HF.out.alloc _)) ((HF.out.alloc _).mono (fun _ _ h => h.elim))
  · have e : Nt.loseT t n = (Nt.lost t n.toNat, 0) := by rw [Nt.loseT, if_neg ho]
    rw [e]
    clear e
    have hk := Nt.out_no ho
    obtain ⟨k, rfl⟩ := Int.eq_ofNat_of_zero_le (a := n) (by unfold Nt.out at ho; omega)
    rw [Int.toNat_natCast] at hk ⊢
    clear ho
    have H := Lib.hid h; clear h; have HR := Lib.hid hr; clear hr; have HK := Lib.hid hk; clear hk
    go_enter Tryz.func56, Tryz.ntmps56
    go_wp2_with fail
    refine (take_yes x v t k _ HK.out HR.out.len (H.out.keep0 ((Fr.refl _ _).alloc _))).mono ?_
    rintro e w1 ⟨v', rfl, ha, hf, hg⟩
    have hf : Fr (Ft x v) w w1 := ((Fr.refl _ w).alloc _).trans hf
    unfold nw5
    have HA := Lib.hid ha; clear ha; have HF := Lib.hid hf; clear hf; have HG := Lib.hid hg; clear hg
    go_wp2
    go_ret
    exact ⟨v', rfl, HA.out.keep0 ((Fr.refl _ _).alloc _), HF.out.alloc _, fun g hg => .inl (HG.out g hg)⟩
set_option maxRecDepth 100000 in
set_option maxHeartbeats 4000000 in
theorem Do_hear (x : Ids) (v : Value) (t : Nt.NT) (a b n pl pb : Int) (m : Nat) (w : World) (hr : Nt.NOk t m) (h : NtAt w x v t) : DoSaid x v t 4 a b n pl pb w := by
  have e : Nt.doT t 4 a b n = Nt.hearT t n := rfl
  unfold DoSaid step6
  rw [e]
  clear e
  by_cases ho : Nt.out t n
  · have e : Nt.hearT t n = (t, 6) := by rw [Nt.hearT, if_pos ho]
    rw [e]
    clear e
    have H := Lib.hid h; clear h; have HR := Lib.hid hr; clear hr; have HO := Lib.hid ho; clear ho
    go_enter Tryz.func56, Tryz.ntmps56
    go_wp2_with fail
    refine (take_no x v t n _ HO.out (H.out.keep0 ((Fr.refl _ _).alloc _))).mono ?_
    rintro e w1 ⟨rfl, hf⟩
    have hf := ((Fr.refl NoB w).alloc _).trans hf
    unfold nw5
    have HF := Lib.hid hf; clear hf
    go_wp2
    go_ret
    exact NtDo.none (H.out.keep0 (HF.out.alloc _)) ((HF.out.alloc _).mono (fun _ _ h => h.elim))
  · have e : Nt.hearT t n = Nt.heard (Nt.lost t n.toNat) (Nt.nwAt t n.toNat) := by rw [Nt.hearT, if_neg ho]
    rw [e]
    clear e
    have hk := Nt.out_no ho
    obtain ⟨k, rfl⟩ := Int.eq_ofNat_of_zero_le (a := n) (by unfold Nt.out at ho; omega)
    rw [Int.toNat_natCast] at hk ⊢
    clear ho
    have hgn := hr.g _ (Nt.nwAt_mem hk)
    have H := Lib.hid h; clear h; have HR := Lib.hid hr; clear hr; have HK := Lib.hid hk; clear hk
    go_enter Tryz.func56, Tryz.ntmps56
    go_wp2_with fail
    refine (take_yes x v t k _ HK.out HR.out.len (H.out.keep0 ((Fr.refl _ _).alloc _))).mono ?_
    rintro e w1 ⟨v', rfl, ha, hf, hg⟩
    have hf : Fr (Ft x v) w w1 := ((Fr.refl _ w).alloc _).trans hf
    have hr2 := HR.out.lost k
    generalize Nt.nwAt t k = y at *
    obtain ⟨y1, y2, y3, y4, y5⟩ := y
    unfold nw5
    have hgn : Nt.isN y2 := hgn
    obtain ⟨g, rfl⟩ := Int.eq_ofNat_of_zero_le hgn.1
    have hg6 : g < 6 := by have := hgn.2; omega
    have hgi : (g : Int) < 6 := hgn.2
    clear hgn HR
    have HA := Lib.hid ha; clear ha; have HF := Lib.hid hf; clear hf; have HG := Lib.hid hg; clear hg; have HR := Lib.hid hr2; clear hr2
    go_upto_region 12 with fail
    refine wp_name fun w2 hw2 => ?_
    have hfa : Fr NoB w1 w2 := by rw [hw2]; exact (Fr.refl _ _).alloc _
    have b0 : w2.cell? ⟨w1.heap.size, 0, none⟩ = some (.int .i64 y1) := by rw [hw2]; simp
    have b1 : w2.cell? ⟨w1.heap.size, 1, none⟩ = some (.int .i64 g) := by rw [hw2]; simp
    have b2 : w2.cell? ⟨w1.heap.size, 2, none⟩ = some (.int .i64 y3) := by rw [hw2]; simp
    have b3 : w2.cell? ⟨w1.heap.size, 3, none⟩ = some (.int .i64 y4) := by rw [hw2]; simp
    have b4 : w2.cell? ⟨w1.heap.size, 4, none⟩ = some (.int .i64 y5) := by rw [hw2]; simp
    have h2 := HA.out.keep0 hfa
    have hf2 := HF.out.trans (hfa.mono (fun _ _ h => h.elim))
    have c1 := h2.cN hg6
    clear hw2 hfa HA HF
    generalize w1.heap.size = p at *
    have H2 := Lib.hid h2; clear h2; have HF := Lib.hid hf2; clear hf2
    (refine still_tail 8 (by kernel_rfl) (by kernel_rfl) ?_; simp only [List.take_succ_cons, List.take_zero, List.drop_succ_cons, List.drop_zero]; (iterate 8 (refine wpStill_step (fun K hK => ?_); go_simp; (with_reducible refine hK _ ?_); clear hK K)); refine wpStill_nil ?_)
    go_wp2_with fail
    refine (Hear_any (x.N g) y1 g y3 y4 y5 ((Nt.lost t k).N g) _ (HR.out.run g hg6).ok (by exact H2.out.node g hg6)).mono ?_
    rintro e w3 ⟨rfl, hn, hf⟩
    have h3 := NtAt.setN (w := w2.drew) ⟨H2.out.net, H2.out.links, H2.out.node, H2.out.news, H2.out.inj⟩ hg6 hn hf
    have hf3 : Fr (Ft x v) w w3 := HF.out.drew.trans (hf.mono (fun i _ h => .inr (.inr (.inl ⟨g, hg6, h⟩))))
    clear hn hf
    have H3 := Lib.hid h3; clear h3; have HF3 := Lib.hid hf3; clear hf3
    go_wp2
    go_ret
    refine ⟨v', ?_, ?_, HF3.out, fun g' hg' => .inl (HG.out g' hg')⟩
    · simp only [Nt.heard, Int.toNat_natCast]; rfl
    · have := H3.out
      simp only [Nt.heard, Int.toNat_natCast]
      exact this
set_option maxRecDepth 100000 in
set_option maxHeartbeats 4000000 in
theorem Do_dbl (x : Ids) (v : Value) (t : Nt.NT) (a b n pl pb : Int) (m : Nat) (w : World) (hr : Nt.NOk t m) (h : NtAt w x v t) : DoSaid x v t 6 a b n pl pb w := by
  have e : Nt.doT t 6 a b n = Nt.dblT t n := rfl
  unfold DoSaid step6
  rw [e]
  clear e
  have hf1 : ∀ o, Fr NoB w (w.alloc o) := fun o => (Fr.refl _ _).alloc _
  have hb := h.lt (.inl rfl)
  have c7 := h.c7
  obtain ⟨av, cv, rfl, j⟩ := ownsRow_rd h.news
  clear j
  by_cases ho : Nt.out t n
  · have e : Nt.dblT t n = (t, 6) := by rw [Nt.dblT, if_pos ho]
    rw [e]
    clear e
    unfold Nt.out at ho
    by_cases h0 : n < 0
    · have hb0 : decide (n < 0) = true := by simpa using h0
      clear ho h0
      have H := Lib.hid h; clear h; have HR := Lib.hid hr; clear hr; have HF1 := Lib.hid hf1; clear hf1
      go_enter Tryz.func56, Tryz.ntmps56
      go_wp2_with fail
      go_quiet (fail)
      go_wp2
      go_ret
      exact NtDo.none ((H.out.keep0 (HF1.out _)).drewN _) (((HF1.out _).mono (fun _ _ h => h.elim)).drewN _)
    · have hb0 : decide (n < 0) = false := by simpa using h0
      have hb1 : decide ((t.news.length : Int) ≤ n) = true := by simp; omega
      clear ho h0
      have H := Lib.hid h; clear h; have HR := Lib.hid hr; clear hr; have HF1 := Lib.hid hf1; clear hf1
      go_enter Tryz.func56, Tryz.ntmps56
      go_wp2_with fail
      go_quiet (fail)
      go_wp2
      go_ret
      exact NtDo.none ((H.out.keep0 (HF1.out _)).drewN _) (((HF1.out _).mono (fun _ _ h => h.elim)).drewN _)
  · have hk := Nt.out_no ho
    obtain ⟨k, rfl⟩ := Int.eq_ofNat_of_zero_le (a := n) (by unfold Nt.out at ho; omega)
    rw [Int.toNat_natCast] at hk
    have hb0 : decide ((k : Int) < 0) = false := by simp
    have hb1 : decide ((t.news.length : Int) ≤ k) = false := by simp; omega
    by_cases hl : t.news.length = 40
    · have e : Nt.dblT t k = (t, 9) := by rw [Nt.dblT, if_neg ho, if_pos hl]
      rw [e]
      have hlb : ((t.news.length : Int) == 40) = true := by simp; omega
      clear e ho hl
      have H := Lib.hid h; clear h; have HR := Lib.hid hr; clear hr; have HF1 := Lib.hid hf1; clear hf1
      go_enter Tryz.func56, Tryz.ntmps56
      go_wp2_with fail
      go_quiet (fail)
      go_wp2
      go_ret
      exact NtDo.none ((H.out.keep0 (HF1.out _)).drewN _) (((HF1.out _).mono (fun _ _ h => h.elim)).drewN _)
    · have e : Nt.dblT t k = ({ t with news := t.news ++ [Nt.nwAt t k] }, 0) := by rw [Nt.dblT, if_neg ho, if_neg hl, Int.toNat_natCast]
      rw [e]
      have hlb : ((t.news.length : Int) == 40) = false := by simp; omega
      have hl40 : t.news.length < 40 := by have := hr.len; omega
      clear e ho hl
      obtain ⟨g, rfl, d0, d1, d2, d3, d4⟩ := news_cells h.news hk
      have hki : (k : Int) < (t.news.length : Int) := by omega
      have hnw : nwGet t.news k = Nt.nwAt t k := rfl
      rw [hnw] at d0 d1 d2 d3 d4
      have hob : (Value.slice (some ⟨g, 0, none⟩) t.news.length cv).ownBlock = some g := rfl
      have hgl := h.lt (.inr (.inr (.inr hob)))
      clear hnw hob
      have H := Lib.hid h; clear h; have HR := Lib.hid hr; clear hr; have HF1 := Lib.hid hf1; clear hf1; have HL := Lib.hid hl40; clear hl40
      go_enter Tryz.func56, Tryz.ntmps56
      go_wp2_with fail
      go_quiet (fail)
      go_wp2_with fail
      refine wp_name fun w1 hw1 => ?_
      have hfa : Fr NoB w w1 := by rw [hw1]; exact (HF1.out _).drewN _
      have e3 : w1.cell? ⟨w.heap.size, 3, none⟩ = some (.int .i64 k) := by rw [hw1]; simp
      have h1 := H.out.keep0 hfa
      have c7 := cell_fr hfa c7 (fun h => h)
      have d0 := cell_fr hfa d0 (fun h => h)
      have d1 := cell_fr hfa d1 (fun h => h)
      have d2 := cell_fr hfa d2 (fun h => h)
      have d3 := cell_fr hfa d3 (fun h => h)
      have d4 := cell_fr hfa d4 (fun h => h)
      have hz := hfa.size
      clear hw1 hgl hb H HF1
      have H := Lib.hid h1; clear h1; have HF := Lib.hid hfa; clear hfa; have HZ := Lib.hid hz; clear hz
      generalize Nt.nwAt t k = y at *
      obtain ⟨y1, y2, y3, y4, y5⟩ := y
      dsimp only at d0 d1 d2 d3 d4
      have hbl : x.b < w1.heap.size := H.out.lt (.inl rfl)
      have key : ∀ (o : Obj) (w2 : World), Fr (fun i => (Value.slice (some ⟨g, 0, none⟩) t.news.length cv).ownBlock = some i) ((w1.drew).alloc o) w2 → w2.cell? ⟨x.b, 7, none⟩ = some (.slice (some ⟨g, 0, none⟩) t.news.length cv) ∧ w2.frozen? ⟨x.b, 7, none⟩ = false ∧ ∀ (cap g' : Nat), (w2.ownsRow 0 112 5 (.slice (some ⟨g', 0, none⟩) (t.news.length + 1) cap) (t.news.length + 1) ((nwI t.news).map (Value.int .i64) ++ [.int .i64 y1, .int .i64 y2, .int .i64 y3, .int .i64 y4, .int .i64 y5])) → NtAt (w2.setCell ⟨x.b, 7, none⟩ (.slice (some ⟨g', 0, none⟩) (t.news.length + 1) cap)) x (.slice (some ⟨g', 0, none⟩) (t.news.length + 1) cap) { t with news := t.news ++ [(⟨y1, y2, y3, y4, y5⟩ : Nt.Nw)] } ∧ Fr (Ft x (.slice (some ⟨g, 0, none⟩) t.news.length cv)) w (w2.setCell ⟨x.b, 7, none⟩ (.slice (some ⟨g', 0, none⟩) (t.news.length + 1) cap)) := by
        intro o w2 hf
        have hf0 : Fr (fun i => (Value.slice (some ⟨g, 0, none⟩) t.news.length cv).ownBlock = some i) w1 w2 := ((Fr.refl _ w1).drew.alloc o).trans hf
        refine ⟨cell_fr hf0 c7 H.out.bv, World.rowIs.frozen (hf0.row H.out.net H.out.bv) 7, fun cap g' h2 => ⟨?_, ?_⟩⟩
        · have hv2 : SlN w2 0 (.slice (some ⟨g', 0, none⟩) (t.news.length + 1) cap) (t.news ++ [(⟨y1, y2, y3, y4, y5⟩ : Nt.Nw)]).length (nwI (t.news ++ [(⟨y1, y2, y3, y4, y5⟩ : Nt.Nw)])) := by
            rw [nwI_app, List.length_append]
            unfold SlN
            rw [List.map_append]
            exact h2
          exact H.out.setV hv2 hf0
        · exact ((HF.out.mono (fun _ _ h => h.elim)).trans (hf0.mono (fun _ _ h => .inr (.inr (.inr h))))).setCell (p := ⟨x.b, 7, none⟩) (.inl (.inl rfl)) _
      have KEY := Lib.hid key; clear key
      go_region_law (refine step_lies (by rfl) (.tmp 91) (.tmp 100) 36 112 5 40 (.agg #[.int .i64 0, .int .i64 0, .int .i64 0, .int .i64 0, .int .i64 0]) (by rfl) Tryz.underlying36 Tryz.info112 rfl (by omega) 0 (.slice (some ⟨g, 0, none⟩) t.news.length cv) t.news.length _ (by rfl) (World.ownsRow.alloc (World.ownsRow.drew H.out.news) _) ⟨w1.heap.size, 0, none⟩ 1 1 [.int .i64 y1, .int .i64 y2, .int .i64 y3, .int .i64 y4, .int .i64 y5] (by rfl) (by rfl) (World.news_of_block (cs := #[.int .i64 y1, .int .i64 y2, .int .i64 y3, .int .i64 y4, .int .i64 y5]) (t := 112) (fr := (0, 0)) (heap_alloc_new w1.drew _)) (by simp [Value.oneCell']) (by omega) (by have := HL.out; omega) (by omega) (by omega) ?_; intro g' cap w2 h2 hf hlie; obtain ⟨q7, qf, hfin⟩ := KEY.out _ _ hf; have HFI := Lib.hid (hfin cap g' h2); clear hfin h2 hf)
      all_goals
        have HLI : Hid (∀ g'' : Nat, (Value.slice (some ⟨g', 0, none⟩) (t.news.length + 1) cap).ownBlock = some g'' → (Value.slice (some ⟨g, 0, none⟩) t.news.length cv).ownBlock = some g'' ∨ w.heap.size ≤ g'') := by
          intro g'' hg'
          simp only [Value.ownBlock, Option.some.injEq] at hg'
          subst hg'
          rcases hlie with h | h
          · exact .inl h
          · refine .inr ?_
            have := HZ.out
            simp at h
            omega
        clear hlie q7 qf
        go_wp2
        go_ret
        exact ⟨_, rfl, HFI.out.1, HFI.out.2, HLI.out⟩

set_option maxRecDepth 100000 in
set_option maxHeartbeats 4000000 in
theorem Do_else (x : Ids) (v : Value) (t : Nt.NT) (k a b n pl pb : Int) (w : World) (h1 : k ≠ 1) (h2 : k ≠ 2) (h3 : k ≠ 3) (h4 : k ≠ 4) (h5 : k ≠ 5) (h6 : k ≠ 6) (h : NtAt w x v t) : DoSaid x v t k a b n pl pb w := by
  have e : Nt.doT t k a b n = (t, 8) := by rw [Nt.doT, if_neg h1, if_neg h2, if_neg h3, if_neg h4, if_neg h5, if_neg h6]
  unfold DoSaid step6
  rw [e]
  clear e
  have g1 : (k == 1) = false := by simpa using h1
  have g2 : (k == 2) = false := by simpa using h2
  have g3 : (k == 3) = false := by simpa using h3
  have g4 : (k == 4) = false := by simpa using h4
  have g5 : (k == 5) = false := by simpa using h5
  have g6 : (k == 6) = false := by simpa using h6
  clear h1 h2 h3 h4 h5 h6
  have H := Lib.hid h; clear h
  go_enter Tryz.func56, Tryz.ntmps56
  go_wp2
  go_ret
  exact NtDo.none (H.out.keep0 ((Fr.refl _ _).alloc _)) ((Fr.refl _ _).alloc _)
theorem Do_any (x : Ids) (v : Value) (t : Nt.NT) (k a b n pl pb : Int) (m : Nat) (w : World) (hr : Nt.NOk t m) (hm : m ≤ 1000) (h : NtAt w x v t) :
    Calls Tryz.prog 56 #[.pointer (some ⟨x.b, 0, none⟩), step6 k a b n pl pb] w (NtDo x v (Nt.doT t k a b n).1 (Nt.doT t k a b n).2 w) := by
  by_cases h1 : k = 1
  · subst h1; exact Do_link x v t a b n pl pb m w hr h
  · by_cases h2 : k = 2
    · subst h2; exact Do_tick x v t a b n pl pb m w hr hm h
    · by_cases h3 : k = 3
      · subst h3; exact Do_tell x v t a b n pl pb m w hr h
      · by_cases h4 : k = 4
        · subst h4; exact Do_hear x v t a b n pl pb m w hr h
        · by_cases h5 : k = 5
          · subst h5; exact Do_lose x v t a b n pl pb m w hr h
          · by_cases h6 : k = 6
            · subst h6; exact Do_dbl x v t a b n pl pb m w hr h
            · exact Do_else x v t k a b n pl pb w h1 h2 h3 h4 h5 h6 h
end Go.Proofs.YteedndapbfihaaaGreat
/- Walks over package net: New, News, Way, Best. -/
namespace Go.Proofs.YteedndapbfihaaaGreat
open Go.RowKit Go.Deep

def NewNtPost (w : World) (e : Ending) (w' : World) : Prop := ∃ (x : Ids) (v : Value), e = .returned (.pointer (some ⟨x.b, 0, none⟩)) ∧ NtAt w' x v Nt.begun ∧ Fr NoB w w' ∧ ∀ i, Ft x v i → w.heap.size ≤ i
/-- The first k nodes are there. -/
def NewRel (w : World) (b L : Nat) (i : Value) (wr : World) : Prop :=
  ∃ (k : Nat) (N : Nat → Nat), k ≤ 6 ∧ i = .int .i64 k ∧ CAt wr L 108 (fun _ _ => 0) ∧ wr.rowIs b 80 8 (fun j => if j = 0 then .pointer (some ⟨L, 0, none⟩) else if j < 7 then (if j - 1 < k then .pointer (some ⟨N (j - 1), 0, none⟩) else .pointer none) else .slice none 0 0) ∧
    (∀ j, j < k → NAt wr (N j) 136 (Nd.fresh j)) ∧ (∀ j, j < k → w.heap.size ≤ N j) ∧ (∀ j l, j < k → l < k → N j = N l → j = l) ∧ w.heap.size ≤ b ∧ w.heap.size ≤ L ∧ Fr NoB w wr
set_option maxRecDepth 100000 in
set_option maxHeartbeats 4000000 in
theorem NewNt (w : World) : Calls Tryz.prog 66 #[] w (NewNtPost w) := by
  go_enter Tryz.func66, Tryz.ntmps66
  go_wp2_with fail
  refine (NewL _).mono ?_
  rintro e w1 ⟨rfl, hL, hf⟩
  have HL := Lib.hid hL; clear hL; have HF := Lib.hid hf; clear hf
  go_wp2
  refine wp_name fun w2 hw2 => ?_
  have hfa : Fr NoB w1 w2 := by rw [hw2]; exact (Fr.refl _ _).alloc _
  have hrow : w2.rowIs w1.heap.size 80 8 (fun j => if j = 0 then .pointer (some ⟨w.heap.size, 0, none⟩) else if j < 7 then (if j - 1 < 0 then .pointer (some ⟨(fun _ => 0) (j - 1), 0, none⟩) else .pointer none) else .slice none 0 0) := by
    rw [hw2]
    exact World.rowIs_alloc w1 _ _ _ (fun i hi => by
      match i, hi with
      | 0, _ => rfl
      | 1, _ => rfl
      | 2, _ => rfl
      | 3, _ => rfl
      | 4, _ => rfl
      | 5, _ => rfl
      | 6, _ => rfl
      | 7, _ => rfl)
  have hL := hfa.row HL.out (fun h => h)
  have hz := HF.out.size
  have hf := HF.out.trans hfa
  have hbL : w.heap.size < w1.heap.size := World.rowIs.lt HL.out
  clear hw2 hfa HL HF
  generalize hL' : w.heap.size = L at *
  generalize w1.heap.size = b at *
  have HL := Lib.hid hL; clear hL; have HF := Lib.hid hf; clear hf; have HRO := Lib.hid hrow; clear hrow; have HZ := Lib.hid hz; clear hz; have HLL := Lib.hid hL'; clear hL'
  go_loopw [6] (fun i wr => NewRel w b L i wr) (fun i _ => 6 - (intOf i).toNat)
  case atStart => exact ⟨0, fun _ => 0, by omega, rfl, HL.out, HRO.out, fun j h => by omega, fun j h => by omega, fun j l h => by omega, by have := HZ.out; have := HLL.out; omega, by have := HLL.out; omega, HF.out⟩
  case round =>
    clear HL HF HRO HZ
    obtain ⟨k, N, hk, rfl, hL, hrow, hn, hN, hinj, hb, hLz, hf⟩ := hrel
    have HL := Lib.hid hL; clear hL; have HRO := Lib.hid hrow; clear hrow; have HN := Lib.hid hn; clear hn; have HNN := Lib.hid hN; clear hN; have HI := Lib.hid hinj; clear hinj; have HB := Lib.hid hb; clear hb; have HLZ := Lib.hid hLz; clear hLz; have HF := Lib.hid hf; clear hf
    by_cases hk6 : k < 6
    · have hki : (k : Int) < 6 := by omega
      have c1 := World.rowIs.cell HRO.out (i := 1 + k) (by omega)
      rw [if_neg (by omega), if_pos (by omega), if_neg (by omega)] at c1
      have f1 := World.rowIs.frozen HRO.out (1 + k)
      go_wp2_with fail
      go_region_held3 (fun W => (W.cell? ⟨b, 1 + k, none⟩).isSome = true ∧ W.frozen? ⟨b, 1 + k, none⟩ = false)
        (first | exact ⟨congrArg Option.isSome c1, f1⟩ | exact ⟨congrArg Option.isSome t1, t2⟩ | exact ⟨congrArg Option.isSome (World.cell?_setCell_same' _ _ _ (congrArg Option.isSome t1)), World.rowIs.frozen (World.rowIs.set hro6 (1 + k) _) _⟩)
        ((go_at_call 95; refine (New_yes k _ hk6).mono ?_; rintro e w6 ⟨rfl, hnn, hff⟩; have hro6 := hff.row (World.rowIs.drew HRO.out) (fun h => h); have t1 := cell_fr hff c1 (fun h => h); have t2 := World.rowIs.frozen hro6 (1 + k)))
      have hnn : NAt w6 wr.heap.size 136 (Nd.fresh k) := hnn
      have hrow : (w6.setCell ⟨b, 1 + k, none⟩ (.pointer (some ⟨wr.heap.size, 0, none⟩))).rowIs b 80 8 (fun j => if j = 0 then .pointer (some ⟨L, 0, none⟩) else if j < 7 then (if j - 1 < k + 1 then .pointer (some ⟨if j - 1 = k then wr.heap.size else N (j - 1), 0, none⟩) else .pointer none) else .slice none 0 0) := by
        refine (World.rowIs.set hro6 (1 + k) _).congr (fun i hi => ?_)
        by_cases e : i = 1 + k
        · subst e
          rw [if_pos rfl, if_neg (by omega), if_pos (by omega), if_pos (by omega), if_pos (by omega)]
        · rw [if_neg e]
          by_cases h0 : i = 0
          · rw [if_pos h0, if_pos h0]
          · rw [if_neg h0, if_neg h0]
            by_cases h7 : i < 7
            · rw [if_pos h7, if_pos h7]
              by_cases hk1 : i - 1 < k
              · rw [if_pos hk1, if_pos (by omega), if_neg (by omega)]
              · rw [if_neg hk1, if_neg (by omega)]
            · rw [if_neg h7, if_neg h7]
      have hbz : b < wr.heap.size := World.rowIs.lt HRO.out
      have hLw : L < wr.heap.size := World.rowIs.lt HL.out
      have hfs : Fr (OneB b) w6 (w6.setCell ⟨b, 1 + k, none⟩ (.pointer (some ⟨wr.heap.size, 0, none⟩))) := (Fr.refl _ _).set1 _ _
      have hL2 := hfs.row (hff.row (World.rowIs.drew HL.out) (fun h => h)) (fun h : L = b => by omega)
      have hwz : w.heap.size ≤ wr.heap.size := HF.out.size
      have hn2 : ∀ j, j < k + 1 → NAt (w6.setCell ⟨b, 1 + k, none⟩ (.pointer (some ⟨wr.heap.size, 0, none⟩))) (if j = k then wr.heap.size else N j) 136 (Nd.fresh j) := by
        intro j hj
        by_cases e : j = k
        · rw [if_pos e, e]; exact hnn.keep hfs (fun h : wr.heap.size = b => by omega)
        · rw [if_neg e]
          have h1 := HN.out j (by omega)
          exact (NAt.keep (w := wr.drew) (World.rowIs.drew h1) hff (fun h => h)).keep hfs (fun h : N j = b => rows_apart HRO.out h1 (by decide) h.symm)
      have hf2 : Fr NoB w (w6.setCell ⟨b, 1 + k, none⟩ (.pointer (some ⟨wr.heap.size, 0, none⟩))) := (HF.out.drew.trans hff).setNew HB.out _ _
      have hi2 : ∀ j l, j < k + 1 → l < k + 1 → (if j = k then wr.heap.size else N j) = (if l = k then wr.heap.size else N l) → j = l := by
        intro j l hj hl h
        by_cases e : j = k
        · by_cases e' : l = k
          · omega
          · rw [if_pos e, if_neg e'] at h
            have := (HN.out l (by omega)).lt
            omega
        · by_cases e' : l = k
          · rw [if_neg e, if_pos e'] at h
            have := (HN.out j (by omega)).lt
            omega
          · rw [if_neg e, if_neg e'] at h
            exact HI.out j l (by omega) (by omega) h
      clear hro6 t1 t2 hff hfs hnn c1 f1
      have HR2 := Lib.hid hrow; clear hrow; have HL2 := Lib.hid hL2; clear hL2; have HN2 := Lib.hid hn2; clear hn2; have HF2 := Lib.hid hf2; clear hf2; have HI2 := Lib.hid hi2; clear hi2
      go_wp2
      go_roundw
      case rel => exact ⟨k + 1, fun j => if j = k then wr.heap.size else N j, by omega, by go_num, HL2.out, HR2.out, HN2.out, fun j hj => by
        dsimp only
        by_cases e : j = k
        · rw [if_pos e]; exact hwz
        · rw [if_neg e]; exact HNN.out j (by omega), HI2.out, HB.out, HLZ.out, HF2.out⟩
      case measure => simp [intOf]; omega
    · obtain rfl : k = 6 := by omega
      go_wp2
      go_ret
      refine ⟨⟨b, L, N⟩, .slice none 0 0, rfl, ⟨HRO.out.congr (fun i hi => ?_), HL.out, HN.out, World.ownsRow_nil _ _ _ _, fun j k hj hk h => HI.out j k hj hk h⟩, HF.out, fun i hi => ?_⟩
      · unfold netF
        by_cases h0 : i = 0
        · rw [if_pos h0, if_pos h0]
        · rw [if_neg h0, if_neg h0]
          by_cases h7 : i < 7
          · rw [if_pos h7, if_pos h7, if_pos (by omega)]
          · rw [if_neg h7, if_neg h7]
      · rcases hi with rfl | rfl | ⟨k, hk, rfl⟩ | hi
        · exact HB.out
        · exact HLZ.out
        · exact HNN.out k hk
        · cases hi
end Go.Proofs.YteedndapbfihaaaGreat
/- Walks: slices.Index, slices.Contains; package net: Way, Path; netBegun. -/
namespace Go.Proofs.YteedndapbfihaaaGreat
open Go.RowKit Go.Deep

def NWayAt (s : Nd.NS) (b : Int) (w : World) (e : Ending) (w' : World) : Prop := e = .returned (way3 (Nd.wayAt s b)) ∧ Fr NoB w w'
set_option maxRecDepth 100000 in
set_option maxHeartbeats 2000000 in
theorem NWay_at (x : Ids) (v : Value) (t : Nt.NT) (a : Nat) (b : Int) (w : World) (ha : a < 6) (h : NtAt w x v t) :
    Calls Tryz.prog 25 #[.pointer (some ⟨x.b, 0, none⟩), .int .i64 a, .int .i64 b] w (NWayAt (t.N a) b w) := by
  have c1 := h.cN ha
  have hbl := h.lt (.inl rfl)
  have H := Lib.hid h; clear h
  go_enter Tryz.func25, Tryz.ntmps25
  go_wp2_with fail
  refine (Node_yes _ _ (by omega) (by omega)).mono ?_; rintro e w' ⟨rfl, rfl⟩
  go_wp2_with fail
  refine (Way_any (x.N a) b (t.N a) _ ((H.out.node a ha).alloc _)).mono ?_
  rintro e w1 ⟨rfl, hf⟩
  have hr := hf.row (rowIs_new w 3 (.int .i64 0) 47) (fun h => h)
  have hf1 : Fr NoB w w1 := ((Fr.refl _ w).alloc _).trans hf
  have z0 := World.rowIs.cell hr (i := 0) (by omega)
  have z1 := World.rowIs.cell hr (i := 1) (by omega)
  have z2 := World.rowIs.cell hr (i := 2) (by omega)
  have y0 := World.rowIs.frozen hr 0
  have y1 := World.rowIs.frozen hr 1
  have y2 := World.rowIs.frozen hr 2
  clear hf H c1 hbl
  have HF := Lib.hid hf1; clear hf1; have HR := Lib.hid hr; clear hr
  generalize hp : w.heap.size = p at *
  generalize hwy : Nd.wayAt (t.N a) b = wy at *
  have HWY := Lib.hid hwy; clear hwy
  obtain ⟨wa, wb, wc⟩ := wy
  unfold way3
  go_wp2
  refine bodyPost_ret (v := .agg #[.int .i64 wa, .int .i64 wb, .int .i64 wc]) ?_ rfl ⟨by rw [HWY.out]; rfl, ((HF.out.setNew (by omega) _ _).setNew (by omega) _ _).setNew (by omega) _ _⟩
  have hR := World.rowIs.set (World.rowIs.set (World.rowIs.set HR.out 0 (.int .i64 wa)) 1 (.int .i64 wb)) 2 (.int .i64 wc)
  have s0 := World.rowIs.cell hR (i := 0) (by omega)
  have s1 := World.rowIs.cell hR (i := 1) (by omega)
  have s2 := World.rowIs.cell hR (i := 2) (by omega)
  clear hR
  generalize ((w1.setCell ⟨p, 0, none⟩ (.int .i64 wa)).setCell ⟨p, 1, none⟩ (.int .i64 wb)).setCell ⟨p, 2, none⟩ (.int .i64 wc) = W5 at *
  simp at s0 s1 s2
  simp [results, Tryz.results25, go_sem, s0, s1, s2]
def pathF (hop : Int → Int) (dst : Int) : Nat → List Int → Int → List Int × Bool
  | 0, out, _ => (out, true)
  | f + 1, out, p => if Nt.isN p then (if p ∈ out then (out, p == dst) else pathF hop dst f (out ++ [p]) (hop p)) else (out, true)
def hopT (t : Nt.NT) (dst : Int) (p : Int) : Int := (Nd.wayAt (t.N p.toNat) dst).hop
def pathT (t : Nt.NT) (src dst : Int) : List Int × Bool := pathF (hopT t dst) dst 7 [] src
theorem nodup_len : ∀ (n : Nat) (l : List Int), l.Nodup → (∀ y ∈ l, 0 ≤ y ∧ y < n) → l.length ≤ n
  | 0, l, _, h => by
    cases l with
    | nil => simp
    | cons a l => have := h a (by simp); omega
  | n + 1, l, hn, h => by
    have h1 := nodup_len n (l.erase (n : Int)) (hn.erase _) (fun y hy => by
      have hy' := (List.Nodup.mem_erase_iff hn).1 hy
      have := h y hy'.2
      have := hy'.1
      omega)
    have h2 : l.length ≤ (l.erase (n : Int)).length + 1 := by
      by_cases hm : (n : Int) ∈ l
      · rw [List.length_erase_of_mem hm]; omega
      · rw [List.erase_of_not_mem hm]; omega
    omega
end Go.Proofs.YteedndapbfihaaaGreat
