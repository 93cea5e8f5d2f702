/- Walks over package net: Do. -/
import Derived.Test.YtdpgbgapelgomaaNt3
namespace Go.Proofs.Ytdpgbgapelgomaa
open Go.RowKit Go.Deep

theorem NtDo.after {x : Ids} {v : Value} {t : Nt.NT} {c : Int} {w w0 w' : World} {e : Ending} (hf : Fr NoB w w0) (h : NtDo x v t c w0 e w') : NtDo x v t c w e w' := by
  obtain ⟨v', he, ha, hf', hg⟩ := h
  exact ⟨v', he, ha, (hf.mono (fun _ _ h => h.elim)).trans hf', fun g hg' => by rcases hg g hg' with h | h; exact .inl h; exact .inr (by have := hf.size; omega)⟩
def step6 (k a b n pl pb : Int) : Value := .agg #[.int .i64 k, .int .i64 a, .int .i64 b, .int .i64 n, .int .i64 pl, .int .i64 pb]
def DoSaid (x : Ids) (v : Value) (t : Nt.NT) (k a b n pl pb : Int) (w : World) : Prop :=
  Calls Try.prog 45 #[.pointer (some ⟨x.b, 0, none⟩), step6 k a b n pl pb] w (NtDo x v (Nt.doT t k a b n).1 (Nt.doT t k a b n).2 w)

set_option maxRecDepth 100000 in
set_option maxHeartbeats 4000000 in
theorem Do_link (x : Ids) (v : Value) (t : Nt.NT) (a b n pl pb : Int) (m : Nat) (w : World) (hr : Nt.NOk t m) (h : NtAt w x v t) : DoSaid x v t 1 a b n pl pb w := by
  have e : Nt.doT t 1 a b n = Nt.linkT t a b n := rfl
  unfold DoSaid step6
  rw [e]
  have H := Lib.hid h; clear h; have HR := Lib.hid hr; clear hr
  clear e
  go_enter Try.func45, Try.ntmps45
  go_wp2_with fail
  refine (Nlink_any x v t a b n m _ HR.out (H.out.keep0 ((Fr.refl _ _).alloc _))).mono ?_
  rintro e w1 hd
  have hd := NtDo.after ((Fr.refl _ w).alloc _) hd
  obtain ⟨v', rfl, ha, hf, hg⟩ := hd
  have HA := Lib.hid ha; clear ha; have HF := Lib.hid hf; clear hf; have HG := Lib.hid hg; clear hg
  go_wp2
  go_ret
  exact ⟨v', rfl, HA.out, HF.out, HG.out⟩
set_option maxRecDepth 100000 in
set_option maxHeartbeats 4000000 in
theorem Do_tick (x : Ids) (v : Value) (t : Nt.NT) (a b n pl pb : Int) (m : Nat) (w : World) (hr : Nt.NOk t m) (hm : m ≤ 1000) (h : NtAt w x v t) : DoSaid x v t 2 a b n pl pb w := by
  have e : Nt.doT t 2 a b n = Nt.tickT t a := rfl
  unfold DoSaid step6
  rw [e]
  have H := Lib.hid h; clear h; have HR := Lib.hid hr; clear hr; have HM := Lib.hid hm; clear hm
  clear e
  go_enter Try.func45, Try.ntmps45
  go_wp2_with fail
  refine (Ntick_any x v t a m _ HR.out HM.out (H.out.keep0 ((Fr.refl _ _).alloc _))).mono ?_
  rintro e w1 hd
  have hd := NtDo.after ((Fr.refl _ w).alloc _) hd
  obtain ⟨v', rfl, ha, hf, hg⟩ := hd
  have HA := Lib.hid ha; clear ha; have HF := Lib.hid hf; clear hf; have HG := Lib.hid hg; clear hg
  go_wp2
  go_ret
  exact ⟨v', rfl, HA.out, HF.out, HG.out⟩
set_option maxRecDepth 100000 in
set_option maxHeartbeats 4000000 in
theorem Do_tell (x : Ids) (v : Value) (t : Nt.NT) (a b n pl pb : Int) (m : Nat) (w : World) (hr : Nt.NOk t m) (h : NtAt w x v t) : DoSaid x v t 3 a b n pl pb w := by
  have e : Nt.doT t 3 a b n = Nt.tellT t a b := rfl
  unfold DoSaid step6
  rw [e]
  have H := Lib.hid h; clear h; have HR := Lib.hid hr; clear hr
  clear e
  go_enter Try.func45, Try.ntmps45
  go_wp2_with fail
  refine (Ntell_any x v t a b m _ HR.out (H.out.keep0 ((Fr.refl _ _).alloc _))).mono ?_
  rintro e w1 hd
  have hd := NtDo.after ((Fr.refl _ w).alloc _) hd
  obtain ⟨v', rfl, ha, hf, hg⟩ := hd
  have HA := Lib.hid ha; clear ha; have HF := Lib.hid hf; clear hf; have HG := Lib.hid hg; clear hg
  go_wp2
  go_ret
  exact ⟨v', rfl, HA.out, HF.out, HG.out⟩
set_option maxRecDepth 100000 in
set_option maxHeartbeats 4000000 in
theorem Do_lose (x : Ids) (v : Value) (t : Nt.NT) (a b n pl pb : Int) (m : Nat) (w : World) (hr : Nt.NOk t m) (h : NtAt w x v t) : DoSaid x v t 5 a b n pl pb w := by
  have e : Nt.doT t 5 a b n = Nt.loseT t n := rfl
  unfold DoSaid step6
  rw [e]
  clear e
  by_cases ho : Nt.out t n
  · have e : Nt.loseT t n = (t, 6) := by rw [Nt.loseT, if_pos ho]
    rw [e]
    clear e
    have H := Lib.hid h; clear h; have HR := Lib.hid hr; clear hr; have HO := Lib.hid ho; clear ho
    go_enter Try.func45, Try.ntmps45
    go_wp2_with fail
    refine (take_no x v t n _ HO.out (H.out.keep0 ((Fr.refl _ _).alloc _))).mono ?_
    rintro e w1 ⟨rfl, hf⟩
    have hf := ((Fr.refl NoB w).alloc _).trans hf
    unfold nw5
    have HF := Lib.hid hf; clear hf
    go_wp2
    go_ret
    exact NtDo.none (H.out.keep0 (HF.out.alloc _)) ((HF.out.alloc _).mono (fun _ _ h => h.elim))
  · have e : Nt.loseT t n = (Nt.lost t n.toNat, 0) := by rw [Nt.loseT, if_neg ho]
    rw [e]
    clear e
    have hk := Nt.out_no ho
    obtain ⟨k, rfl⟩ := Int.eq_ofNat_of_zero_le (a := n) (by unfold Nt.out at ho; omega)
    rw [Int.toNat_natCast] at hk ⊢
    clear ho
    have H := Lib.hid h; clear h; have HR := Lib.hid hr; clear hr; have HK := Lib.hid hk; clear hk
    go_enter Try.func45, Try.ntmps45
    go_wp2_with fail
    refine (take_yes x v t k _ HK.out HR.out.len (H.out.keep0 ((Fr.refl _ _).alloc _))).mono ?_
    rintro e w1 ⟨v', rfl, ha, hf, hg⟩
    have hf : Fr (Ft x v) w w1 := ((Fr.refl _ w).alloc _).trans hf
    unfold nw5
    have HA := Lib.hid ha; clear ha; have HF := Lib.hid hf; clear hf; have HG := Lib.hid hg; clear hg
    go_wp2
    go_ret
    exact ⟨v', rfl, HA.out.keep0 ((Fr.refl _ _).alloc _), HF.out.alloc _, fun g hg => .inl (HG.out g hg)⟩
set_option maxRecDepth 100000 in
set_option maxHeartbeats 4000000 in
theorem Do_hear (x : Ids) (v : Value) (t : Nt.NT) (a b n pl pb : Int) (m : Nat) (w : World) (hr : Nt.NOk t m) (h : NtAt w x v t) : DoSaid x v t 4 a b n pl pb w := by
  have e : Nt.doT t 4 a b n = Nt.hearT t n := rfl
  unfold DoSaid step6
  rw [e]
  clear e
  by_cases ho : Nt.out t n
  · have e : Nt.hearT t n = (t, 6) := by rw [Nt.hearT, if_pos ho]
    rw [e]
    clear e
    have H := Lib.hid h; clear h; have HR := Lib.hid hr; clear hr; have HO := Lib.hid ho; clear ho
    go_enter Try.func45, Try.ntmps45
    go_wp2_with fail
    refine (take_no x v t n _ HO.out (H.out.keep0 ((Fr.refl _ _).alloc _))).mono ?_
    rintro e w1 ⟨rfl, hf⟩
    have hf := ((Fr.refl NoB w).alloc _).trans hf
    unfold nw5
    have HF := Lib.hid hf; clear hf
    go_wp2
    go_ret
    exact NtDo.none (H.out.keep0 (HF.out.alloc _)) ((HF.out.alloc _).mono (fun _ _ h => h.elim))
  · have e : Nt.hearT t n = Nt.heard (Nt.lost t n.toNat) (Nt.nwAt t n.toNat) := by rw [Nt.hearT, if_neg ho]
    rw [e]
    clear e
    have hk := Nt.out_no ho
    obtain ⟨k, rfl⟩ := Int.eq_ofNat_of_zero_le (a := n) (by unfold Nt.out at ho; omega)
    rw [Int.toNat_natCast] at hk ⊢
    clear ho
    have hgn := hr.g _ (Nt.nwAt_mem hk)
    have H := Lib.hid h; clear h; have HR := Lib.hid hr; clear hr; have HK := Lib.hid hk; clear hk
    go_enter Try.func45, Try.ntmps45
    go_wp2_with fail
    refine (take_yes x v t k _ HK.out HR.out.len (H.out.keep0 ((Fr.refl _ _).alloc _))).mono ?_
    rintro e w1 ⟨v', rfl, ha, hf, hg⟩
    have hf : Fr (Ft x v) w w1 := ((Fr.refl _ w).alloc _).trans hf
    have hr2 := HR.out.lost k
    generalize Nt.nwAt t k = y at *
    obtain ⟨y1, y2, y3, y4, y5⟩ := y
    unfold nw5
    have hgn : Nt.isN y2 := hgn
    obtain ⟨g, rfl⟩ := Int.eq_ofNat_of_zero_le hgn.1
    have hg6 : g < 6 := by have := hgn.2; omega
    have hgi : (g : Int) < 6 := hgn.2
    clear hgn HR
    have HA := Lib.hid ha; clear ha; have HF := Lib.hid hf; clear hf; have HG := Lib.hid hg; clear hg; have HR := Lib.hid hr2; clear hr2
    go_upto_region 12 with fail
    refine wp_name fun w2 hw2 => ?_
    have hfa : Fr NoB w1 w2 := by rw [hw2]; exact (Fr.refl _ _).alloc _
    have b0 : w2.cell? ⟨w1.heap.size, 0, none⟩ = some (.int .i64 y1) := by rw [hw2]; simp
    have b1 : w2.cell? ⟨w1.heap.size, 1, none⟩ = some (.int .i64 g) := by rw [hw2]; simp
    have b2 : w2.cell? ⟨w1.heap.size, 2, none⟩ = some (.int .i64 y3) := by rw [hw2]; simp
    have b3 : w2.cell? ⟨w1.heap.size, 3, none⟩ = some (.int .i64 y4) := by rw [hw2]; simp
    have b4 : w2.cell? ⟨w1.heap.size, 4, none⟩ = some (.int .i64 y5) := by rw [hw2]; simp
    have h2 := HA.out.keep0 hfa
    have hf2 := HF.out.trans (hfa.mono (fun _ _ h => h.elim))
    have c1 := h2.cN hg6
    clear hw2 hfa HA HF
    generalize w1.heap.size = p at *
    have H2 := Lib.hid h2; clear h2; have HF := Lib.hid hf2; clear hf2
    (refine still_tail 8 (by kernel_rfl) (by kernel_rfl) ?_; simp only [List.take_succ_cons, List.take_zero, List.drop_succ_cons, List.drop_zero]; (iterate 8 (refine wpStill_step (fun K hK => ?_); go_simp; (with_reducible refine hK _ ?_); clear hK K)); refine wpStill_nil ?_)
    go_wp2_with fail
    refine (Hear_any (x.N g) y1 g y3 y4 y5 ((Nt.lost t k).N g) _ (HR.out.run g hg6).ok (by exact H2.out.node g hg6)).mono ?_
    rintro e w3 ⟨rfl, hn, hf⟩
    have h3 := NtAt.setN (w := w2.drew) ⟨H2.out.net, H2.out.links, H2.out.node, H2.out.news, H2.out.inj⟩ hg6 hn hf
    have hf3 : Fr (Ft x v) w w3 := HF.out.drew.trans (hf.mono (fun i _ h => .inr (.inr (.inl ⟨g, hg6, h⟩))))
    clear hn hf
    have H3 := Lib.hid h3; clear h3; have HF3 := Lib.hid hf3; clear hf3
    go_wp2
    go_ret
    refine ⟨v', ?_, ?_, HF3.out, fun g' hg' => .inl (HG.out g' hg')⟩
    · simp only [Nt.heard, Int.toNat_natCast]; rfl
    · have := H3.out
      simp only [Nt.heard, Int.toNat_natCast]
      exact this
set_option maxRecDepth 100000 in
set_option maxHeartbeats 4000000 in
theorem Do_dbl (x : Ids) (v : Value) (t : Nt.NT) (a b n pl pb : Int) (m : Nat) (w : World) (hr : Nt.NOk t m) (h : NtAt w x v t) : DoSaid x v t 6 a b n pl pb w := by
  have e : Nt.doT t 6 a b n = Nt.dblT t n := rfl
  unfold DoSaid step6
  rw [e]
  clear e
  have hf1 : ∀ o, Fr NoB w (w.alloc o) := fun o => (Fr.refl _ _).alloc _
  have hb := h.lt (.inl rfl)
  have c7 := h.c7
  obtain ⟨av, cv, rfl, j⟩ := ownsRow_rd h.news
  clear j
  by_cases ho : Nt.out t n
  · have e : Nt.dblT t n = (t, 6) := by rw [Nt.dblT, if_pos ho]
    rw [e]
    clear e
    unfold Nt.out at ho
    by_cases h0 : n < 0
    · have hb0 : decide (n < 0) = true := by simpa using h0
      clear ho h0
      have H := Lib.hid h; clear h; have HR := Lib.hid hr; clear hr; have HF1 := Lib.hid hf1; clear hf1
      go_enter Try.func45, Try.ntmps45
      go_wp2_with fail
      go_quiet (fail)
      go_wp2
      go_ret
      exact NtDo.none ((H.out.keep0 (HF1.out _)).drewN _) (((HF1.out _).mono (fun _ _ h => h.elim)).drewN _)
    · have hb0 : decide (n < 0) = false := by simpa using h0
      have hb1 : decide ((t.news.length : Int) ≤ n) = true := by simp; omega
      clear ho h0
      have H := Lib.hid h; clear h; have HR := Lib.hid hr; clear hr; have HF1 := Lib.hid hf1; clear hf1
      go_enter Try.func45, Try.ntmps45
      go_wp2_with fail
      go_quiet (fail)
      go_wp2
      go_ret
      exact NtDo.none ((H.out.keep0 (HF1.out _)).drewN _) (((HF1.out _).mono (fun _ _ h => h.elim)).drewN _)
  · have hk := Nt.out_no ho
    obtain ⟨k, rfl⟩ := Int.eq_ofNat_of_zero_le (a := n) (by unfold Nt.out at ho; omega)
    rw [Int.toNat_natCast] at hk
    have hb0 : decide ((k : Int) < 0) = false := by simp
    have hb1 : decide ((t.news.length : Int) ≤ k) = false := by simp; omega
    by_cases hl : t.news.length = 40
    · have e : Nt.dblT t k = (t, 9) := by rw [Nt.dblT, if_neg ho, if_pos hl]
      rw [e]
      have hlb : ((t.news.length : Int) == 40) = true := by simp; omega
      clear e ho hl
      have H := Lib.hid h; clear h; have HR := Lib.hid hr; clear hr; have HF1 := Lib.hid hf1; clear hf1
      go_enter Try.func45, Try.ntmps45
      go_wp2_with fail
      go_quiet (fail)
      go_wp2
      go_ret
      exact NtDo.none ((H.out.keep0 (HF1.out _)).drewN _) (((HF1.out _).mono (fun _ _ h => h.elim)).drewN _)
    · have e : Nt.dblT t k = ({ t with news := t.news ++ [Nt.nwAt t k] }, 0) := by rw [Nt.dblT, if_neg ho, if_neg hl, Int.toNat_natCast]
      rw [e]
      have hlb : ((t.news.length : Int) == 40) = false := by simp; omega
      have hl40 : t.news.length < 40 := by have := hr.len; omega
      clear e ho hl
      obtain ⟨g, rfl, d0, d1, d2, d3, d4⟩ := news_cells h.news hk
      have hki : (k : Int) < (t.news.length : Int) := by omega
      have hnw : nwGet t.news k = Nt.nwAt t k := rfl
      rw [hnw] at d0 d1 d2 d3 d4
      have hob : (Value.slice (some ⟨g, 0, none⟩) t.news.length cv).ownBlock = some g := rfl
      have hgl := h.lt (.inr (.inr (.inr hob)))
      clear hnw hob
      have H := Lib.hid h; clear h; have HR := Lib.hid hr; clear hr; have HF1 := Lib.hid hf1; clear hf1; have HL := Lib.hid hl40; clear hl40
      go_enter Try.func45, Try.ntmps45
      go_wp2_with fail
      go_quiet (fail)
      go_wp2_with fail
      refine wp_name fun w1 hw1 => ?_
      have hfa : Fr NoB w w1 := by rw [hw1]; exact (HF1.out _).drewN _
      have e3 : w1.cell? ⟨w.heap.size, 3, none⟩ = some (.int .i64 k) := by rw [hw1]; simp
      have h1 := H.out.keep0 hfa
      have c7 := cell_fr hfa c7 (fun h => h)
      have d0 := cell_fr hfa d0 (fun h => h)
      have d1 := cell_fr hfa d1 (fun h => h)
      have d2 := cell_fr hfa d2 (fun h => h)
      have d3 := cell_fr hfa d3 (fun h => h)
      have d4 := cell_fr hfa d4 (fun h => h)
      have hz := hfa.size
      clear hw1 hgl hb H HF1
      have H := Lib.hid h1; clear h1; have HF := Lib.hid hfa; clear hfa; have HZ := Lib.hid hz; clear hz
      generalize Nt.nwAt t k = y at *
      obtain ⟨y1, y2, y3, y4, y5⟩ := y
      dsimp only at d0 d1 d2 d3 d4
      have hbl : x.b < w1.heap.size := H.out.lt (.inl rfl)
      have key : ∀ (o : Obj) (w2 : World), Fr (fun i => (Value.slice (some ⟨g, 0, none⟩) t.news.length cv).ownBlock = some i) ((w1.drew).alloc o) w2 → w2.cell? ⟨x.b, 7, none⟩ = some (.slice (some ⟨g, 0, none⟩) t.news.length cv) ∧ w2.frozen? ⟨x.b, 7, none⟩ = false ∧ ∀ (cap g' : Nat), (w2.ownsRow 0 49 5 (.slice (some ⟨g', 0, none⟩) (t.news.length + 1) cap) (t.news.length + 1) ((nwI t.news).map (Value.int .i64) ++ [.int .i64 y1, .int .i64 y2, .int .i64 y3, .int .i64 y4, .int .i64 y5])) → NtAt (w2.setCell ⟨x.b, 7, none⟩ (.slice (some ⟨g', 0, none⟩) (t.news.length + 1) cap)) x (.slice (some ⟨g', 0, none⟩) (t.news.length + 1) cap) { t with news := t.news ++ [(⟨y1, y2, y3, y4, y5⟩ : Nt.Nw)] } ∧ Fr (Ft x (.slice (some ⟨g, 0, none⟩) t.news.length cv)) w (w2.setCell ⟨x.b, 7, none⟩ (.slice (some ⟨g', 0, none⟩) (t.news.length + 1) cap)) := by
        intro o w2 hf
        have hf0 : Fr (fun i => (Value.slice (some ⟨g, 0, none⟩) t.news.length cv).ownBlock = some i) w1 w2 := ((Fr.refl _ w1).drew.alloc o).trans hf
        refine ⟨cell_fr hf0 c7 H.out.bv, World.rowIs.frozen (hf0.row H.out.net H.out.bv) 7, fun cap g' h2 => ⟨?_, ?_⟩⟩
        · have hv2 : SlN w2 0 (.slice (some ⟨g', 0, none⟩) (t.news.length + 1) cap) (t.news ++ [(⟨y1, y2, y3, y4, y5⟩ : Nt.Nw)]).length (nwI (t.news ++ [(⟨y1, y2, y3, y4, y5⟩ : Nt.Nw)])) := by
            rw [nwI_app, List.length_append]
            unfold SlN
            rw [List.map_append]
            exact h2
          exact H.out.setV hv2 hf0
        · exact ((HF.out.mono (fun _ _ h => h.elim)).trans (hf0.mono (fun _ _ h => .inr (.inr (.inr h))))).setCell (p := ⟨x.b, 7, none⟩) (.inl (.inl rfl)) _
      have KEY := Lib.hid key; clear key
      go_region_law (refine step_lies (by rfl) (.tmp 91) (.tmp 100) 52 49 5 40 (.agg #[.int .i64 0, .int .i64 0, .int .i64 0, .int .i64 0, .int .i64 0]) (by rfl) Try.underlying52 Try.info49 rfl (by omega) 0 (.slice (some ⟨g, 0, none⟩) t.news.length cv) t.news.length _ (by rfl) (World.ownsRow.alloc (World.ownsRow.drew H.out.news) _) ⟨w1.heap.size, 0, none⟩ 1 1 [.int .i64 y1, .int .i64 y2, .int .i64 y3, .int .i64 y4, .int .i64 y5] (by rfl) (by rfl) (World.news_of_block (cs := #[.int .i64 y1, .int .i64 y2, .int .i64 y3, .int .i64 y4, .int .i64 y5]) (t := 49) (fr := (0, 0)) (heap_alloc_new w1.drew _)) (by simp [Value.oneCell']) (by omega) (by have := HL.out; omega) (by omega) (by omega) ?_; intro g' cap w2 h2 hf hlie; obtain ⟨q7, qf, hfin⟩ := KEY.out _ _ hf; have HFI := Lib.hid (hfin cap g' h2); clear hfin h2 hf)
      all_goals
        have HLI : Hid (∀ g'' : Nat, (Value.slice (some ⟨g', 0, none⟩) (t.news.length + 1) cap).ownBlock = some g'' → (Value.slice (some ⟨g, 0, none⟩) t.news.length cv).ownBlock = some g'' ∨ w.heap.size ≤ g'') := by
          intro g'' hg'
          simp only [Value.ownBlock, Option.some.injEq] at hg'
          subst hg'
          rcases hlie with h | h
          · exact .inl h
          · refine .inr ?_
            have := HZ.out
            simp at h
            omega
        clear hlie q7 qf
        go_wp2
        go_ret
        exact ⟨_, rfl, HFI.out.1, HFI.out.2, HLI.out⟩

set_option maxRecDepth 100000 in
set_option maxHeartbeats 4000000 in
theorem Do_else (x : Ids) (v : Value) (t : Nt.NT) (k a b n pl pb : Int) (w : World) (h1 : k ≠ 1) (h2 : k ≠ 2) (h3 : k ≠ 3) (h4 : k ≠ 4) (h5 : k ≠ 5) (h6 : k ≠ 6) (h : NtAt w x v t) : DoSaid x v t k a b n pl pb w := by
  have e : Nt.doT t k a b n = (t, 8) := by rw [Nt.doT, if_neg h1, if_neg h2, if_neg h3, if_neg h4, if_neg h5, if_neg h6]
  unfold DoSaid step6
  rw [e]
  clear e
  have g1 : (k == 1) = false := by simpa using h1
  have g2 : (k == 2) = false := by simpa using h2
  have g3 : (k == 3) = false := by simpa using h3
  have g4 : (k == 4) = false := by simpa using h4
  have g5 : (k == 5) = false := by simpa using h5
  have g6 : (k == 6) = false := by simpa using h6
  clear h1 h2 h3 h4 h5 h6
  have H := Lib.hid h; clear h
  go_enter Try.func45, Try.ntmps45
  go_wp2
  go_ret
  exact NtDo.none (H.out.keep0 ((Fr.refl _ _).alloc _)) ((Fr.refl _ _).alloc _)
theorem Do_any (x : Ids) (v : Value) (t : Nt.NT) (k a b n pl pb : Int) (m : Nat) (w : World) (hr : Nt.NOk t m) (hm : m ≤ 1000) (h : NtAt w x v t) :
    Calls Try.prog 45 #[.pointer (some ⟨x.b, 0, none⟩), step6 k a b n pl pb] w (NtDo x v (Nt.doT t k a b n).1 (Nt.doT t k a b n).2 w) := by
  by_cases h1 : k = 1
  · subst h1; exact Do_link x v t a b n pl pb m w hr h
  · by_cases h2 : k = 2
    · subst h2; exact Do_tick x v t a b n pl pb m w hr hm h
    · by_cases h3 : k = 3
      · subst h3; exact Do_tell x v t a b n pl pb m w hr h
      · by_cases h4 : k = 4
        · subst h4; exact Do_hear x v t a b n pl pb m w hr h
        · by_cases h5 : k = 5
          · subst h5; exact Do_lose x v t a b n pl pb m w hr h
          · by_cases h6 : k = 6
            · subst h6; exact Do_dbl x v t a b n pl pb m w hr h
            · exact Do_else x v t k a b n pl pb w h1 h2 h3 h4 h5 h6 h
end Go.Proofs.Ytdpgbgapelgomaa
