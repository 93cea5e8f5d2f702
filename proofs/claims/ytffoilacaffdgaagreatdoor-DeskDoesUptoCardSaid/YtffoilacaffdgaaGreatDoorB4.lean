/- Walks over package net: Do. -/
import Derived.Test.YtffoilacaffdgaaGreatDoorB3
set_option maxRecDepth 100000
set_option maxHeartbeats 8000000
namespace Go.Proofs.YtffoilacaffdgaaGreatDoor
open Go.RowKit Go.Deep
theorem NtDo.after {x : Ids} {v : Value} {t : Nt.NT} {c : Int} {w w0 w' : World} {e : Ending} (hf : Fr NoB w w0) (h : NtDo x v t c w0 e w') : NtDo x v t c w e w' := by
 obtain ⟨v', he, ha, hf', hg⟩ := h
 exact ⟨v', he, ha, (hf.mono (fun _ _ h => h.elim)).trans hf', fun g hg' => by rcases hg g hg' with h | h; exact .inl h; exact .inr (by have := hf.size; omega)⟩
def step6 (k a b n pl pb : Int) : Value := .agg #[.int .i64 k, .int .i64 a, .int .i64 b, .int .i64 n, .int .i64 pl, .int .i64 pb]
def DoSaid (x : Ids) (v : Value) (t : Nt.NT) (k a b n pl pb : Int) (w : World) : Prop :=
 Calls Tryz.prog 105 #[.pointer (some ⟨x.b, 0, none⟩), step6 k a b n pl pb] w (NtDo x v (Nt.doT t k a b n).1 (Nt.doT t k a b n).2 w)
theorem Do_link (x : Ids) (v : Value) (t : Nt.NT) (a b n pl pb : Int) (m : Nat) (w : World) (hr : Nt.NOk t m) (h : NtAt w x v t) : DoSaid x v t 1 a b n pl pb w := by
 have e : Nt.doT t 1 a b n = Nt.linkT t a b n := rfl
 unfold DoSaid step6
 rw [e]
 have H := zh h; clear h; have HR := zh hr; clear hr
 clear e
 go_enter Tryz.func105, Tryz.ntmps105
 go_wp2_with fail
 refine (Nlink_any x v t a b n m _ HR.out (H.out.keep0 ((Fr.refl _ _).alloc _))).mono ?_
 rintro e w1 hd
 have hd := NtDo.after ((Fr.refl _ w).alloc _) hd
 obtain ⟨v', rfl, ha, hf, hg⟩ := hd
 have HA := zh ha; clear ha; have HF := zh hf; clear hf; have HG := zh hg; clear hg
 go_wp2
 go_ret
 exact ⟨v', rfl, HA.out, HF.out, HG.out⟩
theorem Do_tick (x : Ids) (v : Value) (t : Nt.NT) (a b n pl pb : Int) (m : Nat) (w : World) (hr : Nt.NOk t m) (hm : m ≤ 1000) (h : NtAt w x v t) : DoSaid x v t 2 a b n pl pb w := by
 have e : Nt.doT t 2 a b n = Nt.tickT t a := rfl
 unfold DoSaid step6
 rw [e]
 have H := zh h; clear h; have HR := zh hr; clear hr; have HM := zh hm; clear hm
 clear e
 go_enter Tryz.func105, Tryz.ntmps105
 go_wp2_with fail
 refine (Ntick_any x v t a m _ HR.out HM.out (H.out.keep0 ((Fr.refl _ _).alloc _))).mono ?_
 rintro e w1 hd
 have hd := NtDo.after ((Fr.refl _ w).alloc _) hd
 obtain ⟨v', rfl, ha, hf, hg⟩ := hd
 have HA := zh ha; clear ha; have HF := zh hf; clear hf; have HG := zh hg; clear hg
 go_wp2
 go_ret
 exact ⟨v', rfl, HA.out, HF.out, HG.out⟩
theorem Do_tell (x : Ids) (v : Value) (t : Nt.NT) (a b n pl pb : Int) (m : Nat) (w : World) (hr : Nt.NOk t m) (h : NtAt w x v t) : DoSaid x v t 3 a b n pl pb w := by
 have e : Nt.doT t 3 a b n = Nt.tellT t a b := rfl
 unfold DoSaid step6
 rw [e]
 have H := zh h; clear h; have HR := zh hr; clear hr
 clear e
 go_enter Tryz.func105, Tryz.ntmps105
 go_wp2_with fail
 refine (Ntell_any x v t a b m _ HR.out (H.out.keep0 ((Fr.refl _ _).alloc _))).mono ?_
 rintro e w1 hd
 have hd := NtDo.after ((Fr.refl _ w).alloc _) hd
 obtain ⟨v', rfl, ha, hf, hg⟩ := hd
 have HA := zh ha; clear ha; have HF := zh hf; clear hf; have HG := zh hg; clear hg
 go_wp2
 go_ret
 exact ⟨v', rfl, HA.out, HF.out, HG.out⟩
theorem Do_lose (x : Ids) (v : Value) (t : Nt.NT) (a b n pl pb : Int) (m : Nat) (w : World) (hr : Nt.NOk t m) (h : NtAt w x v t) : DoSaid x v t 5 a b n pl pb w := by
 have e : Nt.doT t 5 a b n = Nt.loseT t n := rfl
 unfold DoSaid step6
 rw [e]
 clear e
 by_cases ho : Nt.out t n
 ·have e : Nt.loseT t n = (t, 6) := by rw [Nt.loseT, if_pos ho]
  rw [e];clear e
  have H := zh h; clear h; have HR := zh hr; clear hr; have HO := zh ho; clear ho;go_enter Tryz.func105, Tryz.ntmps105
  go_wp2_with fail;refine (take_no x v t n _ HO.out (H.out.keep0 ((Fr.refl _ _).alloc _))).mono ?_
  rintro e w1 ⟨rfl, hf⟩
  have hf := ((Fr.refl NoB w).alloc _).trans hf
  unfold nw5;have HF := zh hf; clear hf
  go_wp2;go_ret
  exact NtDo.none (H.out.keep0 (HF.out.alloc _)) ((HF.out.alloc _).mono (fun _ _ h => h.elim))
 have e : Nt.loseT t n = (Nt.lost t n.toNat, 0) := by rw [Nt.loseT, if_neg ho]
 rw [e]
 clear e
 have hk := Nt.out_no ho
 obtain ⟨k, rfl⟩ := Int.eq_ofNat_of_zero_le (a := n) (by unfold Nt.out at ho; omega)
 rw [Int.toNat_natCast] at hk ⊢
 clear ho
 have H := zh h; clear h; have HR := zh hr; clear hr; have HK := zh hk; clear hk
 go_enter Tryz.func105, Tryz.ntmps105
 go_wp2_with fail
 refine (take_yes x v t k _ HK.out HR.out.len (H.out.keep0 ((Fr.refl _ _).alloc _))).mono ?_
 rintro e w1 ⟨v', rfl, ha, hf, hg⟩
 have hf : Fr (Ft x v) w w1 := ((Fr.refl _ w).alloc _).trans hf
 unfold nw5
 have HA := zh ha; clear ha; have HF := zh hf; clear hf; have HG := zh hg; clear hg
 go_wp2
 go_ret
 exact ⟨v', rfl, HA.out.keep0 ((Fr.refl _ _).alloc _), HF.out.alloc _, fun g hg => .inl (HG.out g hg)⟩
theorem Do_hear (x : Ids) (v : Value) (t : Nt.NT) (a b n pl pb : Int) (m : Nat) (w : World) (hr : Nt.NOk t m) (h : NtAt w x v t) : DoSaid x v t 4 a b n pl pb w := by
 have e : Nt.doT t 4 a b n = Nt.hearT t n := rfl
 unfold DoSaid step6
 rw [e]
 clear e
 by_cases ho : Nt.out t n
 ·have e : Nt.hearT t n = (t, 6) := by rw [Nt.hearT, if_pos ho]
  rw [e];clear e
  have H := zh h; clear h; have HR := zh hr; clear hr; have HO := zh ho; clear ho;go_enter Tryz.func105, Tryz.ntmps105
  go_wp2_with fail;refine (take_no x v t n _ HO.out (H.out.keep0 ((Fr.refl _ _).alloc _))).mono ?_
  rintro e w1 ⟨rfl, hf⟩
  have hf := ((Fr.refl NoB w).alloc _).trans hf
  unfold nw5;have HF := zh hf; clear hf
  go_wp2;go_ret
  exact NtDo.none (H.out.keep0 (HF.out.alloc _)) ((HF.out.alloc _).mono (fun _ _ h => h.elim))
 have e : Nt.hearT t n = Nt.heard (Nt.lost t n.toNat) (Nt.nwAt t n.toNat) := by rw [Nt.hearT, if_neg ho]
 rw [e]
 clear e
 have hk := Nt.out_no ho
 obtain ⟨k, rfl⟩ := Int.eq_ofNat_of_zero_le (a := n) (by unfold Nt.out at ho; omega)
 rw [Int.toNat_natCast] at hk ⊢
 clear ho
 have hgn := hr.g _ (Nt.nwAt_mem hk)
 have H := zh h; clear h; have HR := zh hr; clear hr; have HK := zh hk; clear hk
 go_enter Tryz.func105, Tryz.ntmps105
 go_wp2_with fail
 refine (take_yes x v t k _ HK.out HR.out.len (H.out.keep0 ((Fr.refl _ _).alloc _))).mono ?_
 rintro e w1 ⟨v', rfl, ha, hf, hg⟩
 have hf : Fr (Ft x v) w w1 := ((Fr.refl _ w).alloc _).trans hf
 have hr2 := HR.out.lost k
 generalize Nt.nwAt t k = y at *
 obtain ⟨y1, y2, y3, y4, y5⟩ := y
 unfold nw5
 have hgn : Nt.isN y2 := hgn
 obtain ⟨g, rfl⟩ := Int.eq_ofNat_of_zero_le hgn.1
 have hg6 : g < 6 := by have := hgn.2; omega
 have hgi : (g : Int) < 6 := hgn.2
 clear hgn HR
 have HA := zh ha; clear ha; have HF := zh hf; clear hf; have HG := zh hg; clear hg; have HR := zh hr2; clear hr2
 go_upto_region 12 with fail
 refine wp_name fun w2 hw2 => ?_
 have hfa : Fr NoB w1 w2 := by rw [hw2]; exact (Fr.refl _ _).alloc _
 have b0 : w2.cell? ⟨w1.heap.size, 0, none⟩ = some (.int .i64 y1) := by rw [hw2]; simp
 have b1 : w2.cell? ⟨w1.heap.size, 1, none⟩ = some (.int .i64 g) := by rw [hw2]; simp
 have b2 : w2.cell? ⟨w1.heap.size, 2, none⟩ = some (.int .i64 y3) := by rw [hw2]; simp
 have b3 : w2.cell? ⟨w1.heap.size, 3, none⟩ = some (.int .i64 y4) := by rw [hw2]; simp
 have b4 : w2.cell? ⟨w1.heap.size, 4, none⟩ = some (.int .i64 y5) := by rw [hw2]; simp
 have h2 := HA.out.keep0 hfa
 have hf2 := HF.out.trans (hfa.mono (fun _ _ h => h.elim))
 have c1 := h2.cN hg6
 clear hw2 hfa HA HF
 generalize w1.heap.size = p at *
 have H2 := zh h2; clear h2; have HF := zh hf2; clear hf2
 (refine still_tail 8 (by kernel_rfl) (by kernel_rfl) ?_; simp only [List.take_succ_cons, List.take_zero, List.drop_succ_cons, List.drop_zero]; (iterate 8 (refine wpStill_step (fun K hK => ?_); go_simp; (with_reducible refine hK _ ?_); clear hK K)); refine wpStill_nil ?_)
 go_wp2_with fail
 refine (Hear_any (x.N g) y1 g y3 y4 y5 ((Nt.lost t k).N g) _ (HR.out.run g hg6).ok (by exact H2.out.node g hg6)).mono ?_
 rintro e w3 ⟨rfl, hn, hf⟩
 have h3 := NtAt.setN (w := w2.drew) ⟨H2.out.net, H2.out.links, H2.out.node, H2.out.news, H2.out.inj⟩ hg6 hn hf
 have hf3 : Fr (Ft x v) w w3 := HF.out.drew.trans (hf.mono (fun i _ h => .inr (.inr (.inl ⟨g, hg6, h⟩))))
 clear hn hf
 have H3 := zh h3; clear h3; have HF3 := zh hf3; clear hf3
 go_wp2
 go_ret
 refine ⟨v', ?_, ?_, HF3.out, fun g' hg' => .inl (HG.out g' hg')⟩
 ·simp only [Nt.heard, Int.toNat_natCast]; rfl
 have := H3.out
 simp only [Nt.heard, Int.toNat_natCast]
 exact this
theorem Do_dbl (x : Ids) (v : Value) (t : Nt.NT) (a b n pl pb : Int) (m : Nat) (w : World) (hr : Nt.NOk t m) (h : NtAt w x v t) : DoSaid x v t 6 a b n pl pb w := by
 have e : Nt.doT t 6 a b n = Nt.dblT t n := rfl
 unfold DoSaid step6
 rw [e]
 clear e
 have hf1 : ∀ o, Fr NoB w (w.alloc o) := fun o => (Fr.refl _ _).alloc _
 have hb := h.lt (.inl rfl)
 have c7 := h.c7
 obtain ⟨av, cv, rfl, j⟩ := ownsRow_rd h.news
 clear j
 by_cases ho : Nt.out t n
 ·have e : Nt.dblT t n = (t, 6) := by rw [Nt.dblT, if_pos ho]
  rw [e];clear e
  unfold Nt.out at ho;by_cases h0 : n < 0
  ·have hb0 : decide (n < 0) = true := by simpa using h0
   clear ho h0;have H := zh h; clear h; have HR := zh hr; clear hr; have HF1 := zh hf1; clear hf1
   go_enter Tryz.func105, Tryz.ntmps105
   go_wp2_with fail;go_quiet (fail)
   go_wp2;go_ret
   exact NtDo.none ((H.out.keep0 (HF1.out _)).drewN _) (((HF1.out _).mono (fun _ _ h => h.elim)).drewN _)
  have hb0 : decide (n < 0) = false := by simpa using h0
  have hb1 : decide ((t.news.length : Int) ≤ n) = true := by simp; omega
  clear ho h0;have H := zh h; clear h; have HR := zh hr; clear hr; have HF1 := zh hf1; clear hf1
  go_enter Tryz.func105, Tryz.ntmps105
  go_wp2_with fail;go_quiet (fail)
  go_wp2;go_ret
  exact NtDo.none ((H.out.keep0 (HF1.out _)).drewN _) (((HF1.out _).mono (fun _ _ h => h.elim)).drewN _)
 have hk := Nt.out_no ho
 obtain ⟨k, rfl⟩ := Int.eq_ofNat_of_zero_le (a := n) (by unfold Nt.out at ho; omega)
 rw [Int.toNat_natCast] at hk
 have hb0 : decide ((k : Int) < 0) = false := by simp
 have hb1 : decide ((t.news.length : Int) ≤ k) = false := by simp; omega
 by_cases hl : t.news.length = 40
 ·have e : Nt.dblT t k = (t, 9) := by rw [Nt.dblT, if_neg ho, if_pos hl]
  rw [e];have hlb : ((t.news.length : Int) == 40) = true := by simp; omega
  clear e ho hl;have H := zh h; clear h; have HR := zh hr; clear hr; have HF1 := zh hf1; clear hf1
  go_enter Tryz.func105, Tryz.ntmps105
  go_wp2_with fail;go_quiet (fail)
  go_wp2;go_ret
  exact NtDo.none ((H.out.keep0 (HF1.out _)).drewN _) (((HF1.out _).mono (fun _ _ h => h.elim)).drewN _)
 have e : Nt.dblT t k = ({ t with news := t.news ++ [Nt.nwAt t k] }, 0) := by rw [Nt.dblT, if_neg ho, if_neg hl, Int.toNat_natCast]
 rw [e]
 have hlb : ((t.news.length : Int) == 40) = false := by simp; omega
 have hl40 : t.news.length < 40 := by have := hr.len; omega
 clear e ho hl
 obtain ⟨g, rfl, d0, d1, d2, d3, d4⟩ := news_cells h.news hk
 have hki : (k : Int) < (t.news.length : Int) := by omega
 have hnw : nwGet t.news k = Nt.nwAt t k := rfl
 rw [hnw] at d0 d1 d2 d3 d4
 have hob : (Value.slice (some ⟨g, 0, none⟩) t.news.length cv).ownBlock = some g := rfl
 have hgl := h.lt (.inr (.inr (.inr hob)))
 clear hnw hob
 have H := zh h; clear h; have HR := zh hr; clear hr; have HF1 := zh hf1; clear hf1; have HL := zh hl40; clear hl40
 go_enter Tryz.func105, Tryz.ntmps105
 go_wp2_with fail
 go_quiet (fail)
 go_wp2_with fail
 refine wp_name fun w1 hw1 => ?_
 have hfa : Fr NoB w w1 := by rw [hw1]; exact (HF1.out _).drewN _
 have e3 : w1.cell? ⟨w.heap.size, 3, none⟩ = some (.int .i64 k) := by rw [hw1]; simp
 have h1 := H.out.keep0 hfa
 have c7 := cell_fr hfa c7 (fun h => h)
 have d0 := cell_fr hfa d0 (fun h => h)
 have d1 := cell_fr hfa d1 (fun h => h)
 have d2 := cell_fr hfa d2 (fun h => h)
 have d3 := cell_fr hfa d3 (fun h => h)
 have d4 := cell_fr hfa d4 (fun h => h)
 have hz := hfa.size
 clear hw1 hgl hb H HF1
 have H := zh h1; clear h1; have HF := zh hfa; clear hfa; have HZ := zh hz; clear hz
 generalize Nt.nwAt t k = y at *
 obtain ⟨y1, y2, y3, y4, y5⟩ := y
 dsimp only at d0 d1 d2 d3 d4
 have hbl : x.b < w1.heap.size := H.out.lt (.inl rfl)
 have key : ∀ (o : Obj) (w2 : World), Fr (fun i => (Value.slice (some ⟨g, 0, none⟩) t.news.length cv).ownBlock = some i) ((w1.drew).alloc o) w2 → w2.cell? ⟨x.b, 7, none⟩ = some (.slice (some ⟨g, 0, none⟩) t.news.length cv) ∧ w2.frozen? ⟨x.b, 7, none⟩ = false ∧ ∀ (cap g' : Nat), (w2.ownsRow 0 98 5 (.slice (some ⟨g', 0, none⟩) (t.news.length + 1) cap) (t.news.length + 1) ((nwI t.news).map (Value.int .i64) ++ [.int .i64 y1, .int .i64 y2, .int .i64 y3, .int .i64 y4, .int .i64 y5])) → NtAt (w2.setCell ⟨x.b, 7, none⟩ (.slice (some ⟨g', 0, none⟩) (t.news.length + 1) cap)) x (.slice (some ⟨g', 0, none⟩) (t.news.length + 1) cap) { t with news := t.news ++ [(⟨y1, y2, y3, y4, y5⟩ : Nt.Nw)] } ∧ Fr (Ft x (.slice (some ⟨g, 0, none⟩) t.news.length cv)) w (w2.setCell ⟨x.b, 7, none⟩ (.slice (some ⟨g', 0, none⟩) (t.news.length + 1) cap)) := by
  intro o w2 hf;have hf0 : Fr (fun i => (Value.slice (some ⟨g, 0, none⟩) t.news.length cv).ownBlock = some i) w1 w2 := ((Fr.refl _ w1).drew.alloc o).trans hf
  refine ⟨cell_fr hf0 c7 H.out.bv, rF (hf0.row H.out.net H.out.bv) 7, fun cap g' h2 => ⟨?_, ?_⟩⟩
  ·have hv2 : SlN w2 0 (.slice (some ⟨g', 0, none⟩) (t.news.length + 1) cap) (t.news ++ [(⟨y1, y2, y3, y4, y5⟩ : Nt.Nw)]).length (nwI (t.news ++ [(⟨y1, y2, y3, y4, y5⟩ : Nt.Nw)])) := by
    rw [nwI_app, List.length_append];unfold SlN
    rw [List.map_append];exact h2
   exact H.out.setV hv2 hf0
  exact ((HF.out.mono (fun _ _ h => h.elim)).trans (hf0.mono (fun _ _ h => .inr (.inr (.inr h))))).setCell (p := ⟨x.b, 7, none⟩) (.inl (.inl rfl)) _
 have KEY := zh key; clear key
 go_region_law (refine step_lies (by rfl) (.tmp 91) (.tmp 100) 67 98 5 40 (.agg #[.int .i64 0, .int .i64 0, .int .i64 0, .int .i64 0, .int .i64 0]) (by rfl) Tryz.underlying67 Tryz.info98 rfl (by omega) 0 (.slice (some ⟨g, 0, none⟩) t.news.length cv) t.news.length _ (by rfl) (oA (World.ownsRow.drew H.out.news) _) ⟨w1.heap.size, 0, none⟩ 1 1 [.int .i64 y1, .int .i64 y2, .int .i64 y3, .int .i64 y4, .int .i64 y5] (by rfl) (by rfl) (World.news_of_block (cs := #[.int .i64 y1, .int .i64 y2, .int .i64 y3, .int .i64 y4, .int .i64 y5]) (t := 98) (fr := (0, 0)) (heap_alloc_new w1.drew _)) (by simp [Value.oneCell']) (by omega) (by have := HL.out; omega) (by omega) (by omega) ?_; intro g' cap w2 h2 hf hlie; obtain ⟨q7, qf, hfin⟩ := KEY.out _ _ hf; have HFI := zh (hfin cap g' h2); clear hfin h2 hf)
 all_goals
  have HLI : Hid (∀ g'' : Nat, (Value.slice (some ⟨g', 0, none⟩) (t.news.length + 1) cap).ownBlock = some g'' → (Value.slice (some ⟨g, 0, none⟩) t.news.length cv).ownBlock = some g'' ∨ w.heap.size ≤ g'') := by
   intro g'' hg';simp only [Value.ownBlock, Option.some.injEq] at hg'
   subst hg'
   rcases hlie with h | h
   ·exact .inl h
   refine .inr ?_
   have := HZ.out
   simp at h
   omega
  clear hlie q7 qf;go_wp2
  go_ret
  exact ⟨_, rfl, HFI.out.1, HFI.out.2, HLI.out⟩
theorem Do_else (x : Ids) (v : Value) (t : Nt.NT) (k a b n pl pb : Int) (w : World) (h1 : k ≠ 1) (h2 : k ≠ 2) (h3 : k ≠ 3) (h4 : k ≠ 4) (h5 : k ≠ 5) (h6 : k ≠ 6) (h : NtAt w x v t) : DoSaid x v t k a b n pl pb w := by
 have e : Nt.doT t k a b n = (t, 8) := by rw [Nt.doT, if_neg h1, if_neg h2, if_neg h3, if_neg h4, if_neg h5, if_neg h6]
 unfold DoSaid step6
 rw [e]
 clear e
 have g1 : (k == 1) = false := by simpa using h1
 have g2 : (k == 2) = false := by simpa using h2
 have g3 : (k == 3) = false := by simpa using h3
 have g4 : (k == 4) = false := by simpa using h4
 have g5 : (k == 5) = false := by simpa using h5
 have g6 : (k == 6) = false := by simpa using h6
 clear h1 h2 h3 h4 h5 h6
 have H := zh h; clear h
 go_enter Tryz.func105, Tryz.ntmps105
 go_wp2
 go_ret
 exact NtDo.none (H.out.keep0 ((Fr.refl _ _).alloc _)) ((Fr.refl _ _).alloc _)
theorem Do_any (x : Ids) (v : Value) (t : Nt.NT) (k a b n pl pb : Int) (m : Nat) (w : World) (hr : Nt.NOk t m) (hm : m ≤ 1000) (h : NtAt w x v t) :
  Calls Tryz.prog 105 #[.pointer (some ⟨x.b, 0, none⟩), step6 k a b n pl pb] w (NtDo x v (Nt.doT t k a b n).1 (Nt.doT t k a b n).2 w) := by
 by_cases h1 : k = 1
 ·subst h1; exact Do_link x v t a b n pl pb m w hr h
 by_cases h2 : k = 2
 ·subst h2; exact Do_tick x v t a b n pl pb m w hr hm h
 by_cases h3 : k = 3
 ·subst h3; exact Do_tell x v t a b n pl pb m w hr h
 by_cases h4 : k = 4
 ·subst h4; exact Do_hear x v t a b n pl pb m w hr h
 by_cases h5 : k = 5
 ·subst h5; exact Do_lose x v t a b n pl pb m w hr h
 by_cases h6 : k = 6
 ·subst h6; exact Do_dbl x v t a b n pl pb m w hr h
 exact Do_else x v t k a b n pl pb w h1 h2 h3 h4 h5 h6 h
def CloneNews (l : List Nt.Nw) (w : World) (e : Ending) (w' : World) : Prop := ∃ v, e = .returned v ∧ SlN w' w.heap.size v l.length (nwI l) ∧ Fr NoB w w'
theorem Clone_any (v : Value) (l : List Nt.Nw) (w : World) (hl : l.length ≤ 1000) (h : SlN w 0 v l.length (nwI l)) :
  Calls Tryz.prog 107 #[v] w (CloneNews l w) := by
 rcases h.2 with ⟨rfl, h0⟩ | ⟨g, cap, cur, rfl, _, _, _⟩
 ·have e : l = [] := List.eq_nil_of_length_eq_zero h0
  subst e;clear h h0
  go_enter Tryz.func107, Tryz.ntmps107
  have hnil := fun w => Go.Lib.run_eql_slice_nil (P := Tryz.prog) w 67 98 none 0 0 0 0 Tryz.underlying67
  go_wp2;go_ret
  exact ⟨_, rfl, World.ownsRow_nil _ _ _ _, Fr.refl _ _⟩
 have H := zh h; clear h
 go_enter Tryz.func107, Tryz.ntmps107
 have hnil := fun w => Go.Lib.run_eql_slice_nil (P := Tryz.prog) w 67 98 (some ⟨g, 0, none⟩) l.length cap 0 0 Tryz.underlying67
 go_wp2_with (at_builtin; go_loud (refine app_own (by rfl) (.tmp 5) (.tmp 6) 67 98 5 40 (.agg #[.int .i64 0, .int .i64 0, .int .i64 0, .int .i64 0, .int .i64 0]) (by rfl) Tryz.underlying67 Tryz.info98 rfl (by omega) w.heap.size (.slice (some ⟨w.heap.size, 0, none⟩) 0 0) 0 [] (by rfl) ⟨rfl, .inr ⟨w.heap.size, 0, #[], rfl, Nat.le_refl _, heap_alloc_new w _, Nat.le_refl _, by unfold maxLen; omega, rfl, rfl⟩⟩ ⟨g, 0, none⟩ l.length cap ((nwI l).map (Value.int .i64)) (by rfl) (by rw [List.length_map, nwI_len]) (fun j u hu => news_rd (oA H.out _) j u g rfl hu) (by intro u hu; obtain ⟨y, _, rfl⟩ := List.mem_map.1 hu; rfl) (by omega) (by omega) (by simp) ?_))
 intro v' w1 h1 hf
 have h1 : SlN w1 w.heap.size v' l.length (nwI l) := by
  unfold SlN;simpa using h1
 have hf1 : Fr NoB w w1 := ((Fr.refl NoB w).alloc (.cells #[] 98)).trans' hf (fun i hi h => by
  simp only [Value.ownBlock, Option.some.injEq] at h
  omega)
 clear hf
 have H1 := zh h1; clear h1; have HF1 := zh hf1; clear hf1
 go_wp2
 go_ret
 exact ⟨_, rfl, H1.out, HF1.out⟩
def NewsPost (t : Nt.NT) (w : World) (e : Ending) (w' : World) : Prop := ∃ v, e = .returned v ∧ SlN w' w.heap.size v t.news.length (nwI t.news) ∧ Fr NoB w w'
theorem News_any (x : Ids) (v : Value) (t : Nt.NT) (w : World) (hl : t.news.length ≤ 1000) (h : NtAt w x v t) :
  Calls Tryz.prog 76 #[.pointer (some ⟨x.b, 0, none⟩)] w (NewsPost t w) := by
 have c7 := h.c7
 have H := zh h; clear h
 go_enter Tryz.func76, Tryz.ntmps76
 go_wp2_with fail
 refine (Clone_any v t.news _ hl H.out.news).mono ?_
 rintro e w1 ⟨v', rfl, h1, hf⟩
 have H1 := zh h1; clear h1; have HF := zh hf; clear hf
 go_wp2
 go_ret
 exact ⟨_, rfl, H1.out, HF.out⟩
def NewNtPost (w : World) (e : Ending) (w' : World) : Prop := ∃ (x : Ids) (v : Value), e = .returned (.pointer (some ⟨x.b, 0, none⟩)) ∧ NtAt w' x v Nt.begun ∧ Fr NoB w w' ∧ ∀ i, Ft x v i → w.heap.size ≤ i
def NewRel (w : World) (b L : Nat) (i : Value) (wr : World) : Prop :=
 ∃ (k : Nat) (N : Nat → Nat), k ≤ 6 ∧ i = .int .i64 k ∧ CAt wr L 140 (fun _ _ => 0) ∧ wr.rowIs b 109 8 (fun j => if j = 0 then .pointer (some ⟨L, 0, none⟩) else if j < 7 then (if j - 1 < k then .pointer (some ⟨N (j - 1), 0, none⟩) else .pointer none) else .slice none 0 0) ∧
  (∀ j, j < k → NAt wr (N j) 146 (Nd.fresh j)) ∧ (∀ j, j < k → w.heap.size ≤ N j) ∧ (∀ j l, j < k → l < k → N j = N l → j = l) ∧ w.heap.size ≤ b ∧ w.heap.size ≤ L ∧ Fr NoB w wr
theorem NewNt (w : World) : Calls Tryz.prog 21 #[] w (NewNtPost w) := by
 go_enter Tryz.func21, Tryz.ntmps21
 go_wp2_with fail
 refine (NewL _).mono ?_
 rintro e w1 ⟨rfl, hL, hf⟩
 have HL := zh hL; clear hL; have HF := zh hf; clear hf
 go_wp2
 refine wp_name fun w2 hw2 => ?_
 have hfa : Fr NoB w1 w2 := by rw [hw2]; exact (Fr.refl _ _).alloc _
 have hrow : w2.rowIs w1.heap.size 109 8 (fun j => if j = 0 then .pointer (some ⟨w.heap.size, 0, none⟩) else if j < 7 then (if j - 1 < 0 then .pointer (some ⟨(fun _ => 0) (j - 1), 0, none⟩) else .pointer none) else .slice none 0 0) := by
  rw [hw2]
  exact World.rowIs_alloc w1 _ _ _ (fun i hi => by
   match i, hi with
   | 0, _ => rfl
   | 1, _ => rfl
   | 2, _ => rfl
   | 3, _ => rfl
   | 4, _ => rfl
   | 5, _ => rfl
   | 6, _ => rfl
   | 7, _ => rfl)
 have hL := hfa.row HL.out (fun h => h)
 have hz := HF.out.size
 have hf := HF.out.trans hfa
 have hbL : w.heap.size < w1.heap.size := World.rowIs.lt HL.out
 clear hw2 hfa HL HF
 generalize hL' : w.heap.size = L at *
 generalize w1.heap.size = b at *
 have HL := zh hL; clear hL; have HF := zh hf; clear hf; have HRO := zh hrow; clear hrow; have HZ := zh hz; clear hz; have HLL := zh hL'; clear hL'
 go_loopw [6] (fun i wr => NewRel w b L i wr) (fun i _ => 6 - (intOf i).toNat)
 case atStart => exact ⟨0, fun _ => 0, by omega, rfl, HL.out, HRO.out, fun j h => by omega, fun j h => by omega, fun j l h => by omega, by have := HZ.out; have := HLL.out; omega, by have := HLL.out; omega, HF.out⟩
 case round =>
  clear HL HF HRO HZ;obtain ⟨k, N, hk, rfl, hL, hrow, hn, hN, hinj, hb, hLz, hf⟩ := hrel
  have HL := zh hL; clear hL; have HRO := zh hrow; clear hrow; have HN := zh hn; clear hn; have HNN := zh hN; clear hN; have HI := zh hinj; clear hinj; have HB := zh hb; clear hb; have HLZ := zh hLz; clear hLz; have HF := zh hf; clear hf;by_cases hk6 : k < 6
  ·have hki : (k : Int) < 6 := by omega
   have c1 := rC HRO.out (i := 1 + k) (by omega)
   rw [if_neg (by omega), if_pos (by omega), if_neg (by omega)] at c1;have f1 := rF HRO.out (1 + k)
   go_wp2_with fail
   go_region_held3 (fun W => (W.cell? ⟨b, 1 + k, none⟩).isSome = true ∧ W.frozen? ⟨b, 1 + k, none⟩ = false)
    (first | exact ⟨congrArg Option.isSome c1, f1⟩ | exact ⟨congrArg Option.isSome t1, t2⟩ | exact ⟨congrArg Option.isSome (World.cell?_setCell_same' _ _ _ (congrArg Option.isSome t1)), rF (World.rowIs.set hro6 (1 + k) _) _⟩)
    ((go_at_call 42; refine (New_yes k _ hk6).mono ?_; rintro e w6 ⟨rfl, hnn, hff⟩; have hro6 := hff.row (World.rowIs.drew HRO.out) (fun h => h); have t1 := cell_fr hff c1 (fun h => h); have t2 := rF hro6 (1 + k)))
   have hnn : NAt w6 wr.heap.size 146 (Nd.fresh k) := hnn
   have hrow : (w6.setCell ⟨b, 1 + k, none⟩ (.pointer (some ⟨wr.heap.size, 0, none⟩))).rowIs b 109 8 (fun j => if j = 0 then .pointer (some ⟨L, 0, none⟩) else if j < 7 then (if j - 1 < k + 1 then .pointer (some ⟨if j - 1 = k then wr.heap.size else N (j - 1), 0, none⟩) else .pointer none) else .slice none 0 0) := by
    refine (World.rowIs.set hro6 (1 + k) _).congr (fun i hi => ?_)
    by_cases e : i = 1 + k
    ·subst e;rw [if_pos rfl, if_neg (by omega), if_pos (by omega), if_pos (by omega), if_pos (by omega)]
    rw [if_neg e];by_cases h0 : i = 0
    ·rw [if_pos h0, if_pos h0]
    rw [if_neg h0, if_neg h0];by_cases h7 : i < 7
    ·rw [if_pos h7, if_pos h7];by_cases hk1 : i - 1 < k
     ·rw [if_pos hk1, if_pos (by omega), if_neg (by omega)]
     rw [if_neg hk1, if_neg (by omega)]
    rw [if_neg h7, if_neg h7]
   have hbz : b < wr.heap.size := World.rowIs.lt HRO.out
   have hLw : L < wr.heap.size := World.rowIs.lt HL.out
   have hfs : Fr (OneB b) w6 (w6.setCell ⟨b, 1 + k, none⟩ (.pointer (some ⟨wr.heap.size, 0, none⟩))) := (Fr.refl _ _).set1 _ _
   have hL2 := hfs.row (hff.row (World.rowIs.drew HL.out) (fun h => h)) (fun h : L = b => by omega)
   have hwz : w.heap.size ≤ wr.heap.size := HF.out.size
   have hn2 : ∀ j, j < k + 1 → NAt (w6.setCell ⟨b, 1 + k, none⟩ (.pointer (some ⟨wr.heap.size, 0, none⟩))) (if j = k then wr.heap.size else N j) 146 (Nd.fresh j) := by
    intro j hj;by_cases e : j = k
    ·rw [if_pos e, e]; exact hnn.keep hfs (fun h : wr.heap.size = b => by omega)
    rw [if_neg e];have h1 := HN.out j (by omega)
    exact (NAt.keep (w := wr.drew) (World.rowIs.drew h1) hff (fun h => h)).keep hfs (fun h : N j = b => rows_apart HRO.out h1 (by decide) h.symm)
   have hf2 : Fr NoB w (w6.setCell ⟨b, 1 + k, none⟩ (.pointer (some ⟨wr.heap.size, 0, none⟩))) := (HF.out.drew.trans hff).setNew HB.out _ _
   have hi2 : ∀ j l, j < k + 1 → l < k + 1 → (if j = k then wr.heap.size else N j) = (if l = k then wr.heap.size else N l) → j = l := by
    intro j l hj hl h;by_cases e : j = k
    ·by_cases e' : l = k
     ·omega
     rw [if_pos e, if_neg e'] at h;have := (HN.out l (by omega)).lt
     omega
    by_cases e' : l = k
    ·rw [if_neg e, if_pos e'] at h;have := (HN.out j (by omega)).lt
     omega
    rw [if_neg e, if_neg e'] at h;exact HI.out j l (by omega) (by omega) h
   clear hro6 t1 t2 hff hfs hnn c1 f1;have HR2 := zh hrow; clear hrow; have HL2 := zh hL2; clear hL2; have HN2 := zh hn2; clear hn2; have HF2 := zh hf2; clear hf2; have HI2 := zh hi2; clear hi2
   go_wp2;go_roundw
   case rel => exact ⟨k + 1, fun j => if j = k then wr.heap.size else N j, by omega, by go_num, HL2.out, HR2.out, HN2.out, fun j hj => by
    dsimp only;by_cases e : j = k
    ·rw [if_pos e]; exact hwz
    rw [if_neg e]; exact HNN.out j (by omega), HI2.out, HB.out, HLZ.out, HF2.out⟩
   case measure => simp [intOf]; omega
  obtain rfl : k = 6 := by omega
  go_wp2;go_ret
  refine ⟨⟨b, L, N⟩, .slice none 0 0, rfl, ⟨HRO.out.congr (fun i hi => ?_), HL.out, HN.out, World.ownsRow_nil _ _ _ _, fun j k hj hk h => HI.out j k hj hk h⟩, HF.out, fun i hi => ?_⟩
  ·unfold netF;by_cases h0 : i = 0
   ·rw [if_pos h0, if_pos h0]
   rw [if_neg h0, if_neg h0];by_cases h7 : i < 7
   ·rw [if_pos h7, if_pos h7, if_pos (by omega)]
   rw [if_neg h7, if_neg h7]
  rcases hi with rfl | rfl | ⟨k, hk, rfl⟩ | hi
  ·exact HB.out
  ·exact HLZ.out
  ·exact HNN.out k hk
  cases hi
def NWayAt (s : Nd.NS) (b : Int) (w : World) (e : Ending) (w' : World) : Prop := e = .returned (way3 (Nd.wayAt s b)) ∧ Fr NoB w w'
theorem NWay_at (x : Ids) (v : Value) (t : Nt.NT) (a : Nat) (b : Int) (w : World) (ha : a < 6) (h : NtAt w x v t) :
  Calls Tryz.prog 75 #[.pointer (some ⟨x.b, 0, none⟩), .int .i64 a, .int .i64 b] w (NWayAt (t.N a) b w) := by
 have c1 := h.cN ha
 have hbl := h.lt (.inl rfl)
 have H := zh h; clear h
 go_enter Tryz.func75, Tryz.ntmps75
 go_wp2_with fail
 refine (Node_yes _ _ (by omega) (by omega)).mono ?_; rintro e w' ⟨rfl, rfl⟩
 go_wp2_with fail
 refine (Way_any (x.N a) b (t.N a) _ ((H.out.node a ha).alloc _)).mono ?_
 rintro e w1 ⟨rfl, hf⟩
 have hr := hf.row (rowIs_new w 3 (.int .i64 0) 95) (fun h => h)
 have hf1 : Fr NoB w w1 := ((Fr.refl _ w).alloc _).trans hf
 have z0 := rC hr (i := 0) (by omega)
 have z1 := rC hr (i := 1) (by omega)
 have z2 := rC hr (i := 2) (by omega)
 have y0 := rF hr 0
 have y1 := rF hr 1
 have y2 := rF hr 2
 clear hf H c1 hbl
 have HF := zh hf1; clear hf1; have HR := zh hr; clear hr
 generalize hp : w.heap.size = p at *
 generalize hwy : Nd.wayAt (t.N a) b = wy at *
 have HWY := zh hwy; clear hwy
 obtain ⟨wa, wb, wc⟩ := wy
 unfold way3
 go_wp2
 refine bodyPost_ret (v := .agg #[.int .i64 wa, .int .i64 wb, .int .i64 wc]) ?_ rfl ⟨by rw [HWY.out]; rfl, ((HF.out.setNew (by omega) _ _).setNew (by omega) _ _).setNew (by omega) _ _⟩
 have hR := World.rowIs.set (World.rowIs.set (World.rowIs.set HR.out 0 (.int .i64 wa)) 1 (.int .i64 wb)) 2 (.int .i64 wc)
 have s0 := rC hR (i := 0) (by omega)
 have s1 := rC hR (i := 1) (by omega)
 have s2 := rC hR (i := 2) (by omega)
 clear hR
 generalize ((w1.setCell ⟨p, 0, none⟩ (.int .i64 wa)).setCell ⟨p, 1, none⟩ (.int .i64 wb)).setCell ⟨p, 2, none⟩ (.int .i64 wc) = W5 at *
 simp at s0 s1 s2
 simp [results, Tryz.results75, go_sem, s0, s1, s2]
def hopT (t : Nt.NT) (dst : Int) (p : Int) : Int := (Nd.wayAt (t.N p.toNat) dst).hop
theorem nodup_len : ∀ (n : Nat) (l : List Int), l.Nodup → (∀ y ∈ l, 0 ≤ y ∧ y < n) → l.length ≤ n
 | 0, l, _, h => by
  cases l with
  | nil => simp
  | cons a l => have := h a (by simp); omega
 | n + 1, l, hn, h => by
  have h1 := nodup_len n (l.erase (n : Int)) (hn.erase _) (fun y hy => by
   have hy' := (List.Nodup.mem_erase_iff hn).1 hy
   have := h y hy'.2
   have := hy'.1
   omega)
  have h2 : l.length ≤ (l.erase (n : Int)).length + 1 := by
   by_cases hm : (n : Int) ∈ l
   ·rw [List.length_erase_of_mem hm]; omega
   rw [List.erase_of_not_mem hm]; omega
  omega
end Go.Proofs.YtffoilacaffdgaaGreatDoor
namespace Go.Proofs.YtffoilacaffdgaaGreatDoor.Nd
structure W2 (s : NS) : Prop where
 told : ∀ k, k < 6 → betB (s.wS k) (s.wD k) (s.bS k) (s.bD k) = false
 bD : ∀ k, k < 6 → s.bD k ≤ 200
theorem closed {P : NS → Prop} (hp : ∀ s k, k < 6 → Ok s → P s → P (pick s k)) (hs : ∀ s s' : NS, s'.me = s.me → s'.bS = s.bS → s'.bD = s.bD → s'.wS = s.wS → s'.wD = s.wD → s'.wH = s.wH → P s → P s') {s : NS} (ok : Ok s) (h : P s) :
  (∀ who c, P (linkC s who c).1) ∧ ∀ f t q d, P (hearC s f t q d).1 := by
 have hall : ∀ (s : NS), Ok s → P s → ∀ k, k ≤ 6 → P (all s k) := by
  intro s ok h k;induction k with
  | zero => intro _; exact h
  | succ k ih => intro hk; exact hp _ k (by omega) (ok.all k) (ih (by omega))
 refine ⟨fun who c => ?_, fun f t q d => ?_⟩
 ·unfold Nd.linkC; split
  ·exact h
  rename_i hb
  simp only [linkBad] at hb
  show P (link s who.toNat c)
  unfold Nd.link; dsimp only; split
  ·exact hall _ (Ok.forget (Ok.cost' ok _ c (by omega) (by omega)) _) (hs s _ rfl rfl rfl rfl rfl rfl h) 6 (by omega)
  exact hall _ (Ok.cost' ok _ c (by omega) (by omega)) (hs s _ rfl rfl rfl rfl rfl rfl h) 6 (by omega)
 unfold Nd.hearC; split
 ·exact h
 rename_i hb
 simp only [hearBad] at hb
 split
 ·exact h
 exact hp _ _ (by omega) (ok.heard _ _ q d (by omega) (by omega) (by omega)) (hs s _ rfl rfl rfl rfl rfl rfl h)
theorem W2.pick {s : NS} {k : Nat} (hk : k < 6) (h : W2 s) : W2 (pick s k) := by
 unfold Nd.pick
 split
 ·exact h
 have key2 : (choose s k 6).hop = -1 ∧ (choose s k 6).seq = s.bS k ∧ (choose s k 6).dist = 200 ∨ (choose s k 6).hop ≠ -1 ∧ (choose s k 6).dist < 200 := by
  rcases choose_cases s k with e | ⟨t, ht, hm, e⟩
  ·rw [e]; exact .inl ⟨rfl, rfl, rfl⟩
  rw [e];simp only [may, Bool.and_eq_true, decide_eq_true_eq] at hm
  exact .inr ⟨by simp only [key]; omega, hm.1.2⟩
 have hb := h.bD k hk
 generalize choose s k 6 = w at *
 refine ⟨fun j hj => ?_, fun j hj => ?_⟩
 ·by_cases e : j = k
  ·subst e;simp only [lay, up_same]
   split
   ·rw [up_same, up_same, betB_no]; omega
   rename_i hn
   rcases key2 with ⟨h1, h2, h3⟩ | ⟨h1, h2⟩
   ·rw [h2, h3, betB_no]; omega
   cases hc : betB w.seq w.dist (s.bS j) (s.bD j)
   ·rfl
   exact absurd ⟨h1, hc⟩ hn
  have := h.told j hj
  simp only [lay]
  split <;> simp [up, e, this]
 have := h.bD j hj
 simp only [lay]
 split
 ·unfold up; split
  ·rename_i hh _; rcases key2 with ⟨h1, h2, h3⟩ | ⟨h1, h2⟩ <;> omega
  exact this
 exact this
theorem W2.both {s : NS} (ok : Ok s) (h : W2 s) : (∀ who c, W2 (linkC s who c).1) ∧ ∀ f t q d, W2 (hearC s f t q d).1 :=
 closed (P := W2) (fun _ _ hk _ h => W2.pick hk h) (fun s s' _ e1 e2 e3 e4 _ h => ⟨by rw [e1, e2, e3, e4]; exact h.told, by rw [e2]; exact h.bD⟩) ok h
theorem W2.tick {s : NS} (h : W2 s) : W2 (tick s) := by
 refine ⟨fun k hk => ?_, fun k hk => ?_⟩
 ·by_cases e : k = s.me
  ·subst e;have e1 : (Nd.tick s).wS s.me = s.wS s.me + 1 := tick_wSme s
   have e2 : (Nd.tick s).wD s.me = 0 := by simp [Nd.tick, Nd.own]
   have e3 : (Nd.tick s).bS s.me = s.wS s.me + 1 := by simp [Nd.tick, Nd.own]
   have e4 : (Nd.tick s).bD s.me = 0 := by simp [Nd.tick, Nd.own]
   rw [e1, e2, e3, e4, betB_no]; omega
  have := h.told k hk
  simpa [Nd.tick, Nd.own, up, e] using this
 have := h.bD k hk
 simp only [Nd.tick, Nd.own, up]; split <;> omega
theorem W2.fresh {me : Nat} : W2 (fresh me) := by
 refine ⟨fun k hk => ?_, fun k hk => ?_⟩
 ·rw [betB_no];simp only [Nd.fresh, Nd.own, newK, up]
  split <;> (try split) <;> omega
 simp only [Nd.fresh, Nd.own, newK, up]
 split <;> (try split) <;> omega
def Cap (s : NS) (T : Nat → Int) : Prop := ∀ k, k < 6 → s.wS k ≤ T k ∧ s.bS k ≤ T k ∧ ∀ f, f < 6 → s.hS f k ≤ T k
theorem Cap.pick {s : NS} {T : Nat → Int} {k : Nat} (hk : k < 6) (h : Cap s T) : Cap (pick s k) T := by
 unfold Nd.pick
 split
 ·exact h
 have key2 : (choose s k 6).seq ≤ T k := by
  rcases choose_cases s k with e | ⟨t, ht, hm, e⟩
  ·rw [e]; exact (h k hk).2.1
  rw [e]; exact (h k hk).2.2 t ht
 generalize choose s k 6 = w at *
 intro j hj
 obtain ⟨a, b, c⟩ := h j hj
 refine ⟨?_, ?_, c⟩
 ·simp only [lay, up]; split
  ·rename_i e; rw [e]; exact key2
  exact a
 simp only [lay]; split
 ·unfold up; split
  ·rename_i e; rw [e]; exact key2
  exact b
 exact b
theorem Cap.all {s : NS} {T : Nat → Int} (h : Cap s T) : ∀ k, k ≤ 6 → Cap (all s k) T
 | 0, _ => h
 | k + 1, hk => Cap.pick (by omega) (Cap.all h k (by omega))
theorem Cap.linkC {s : NS} {T : Nat → Int} (h : Cap s T) (h0 : ∀ k, k < 6 → 0 ≤ T k) (who c : Int) : Cap (linkC s who c).1 T := by
 unfold Nd.linkC; split
 ·exact h
 show Cap (link s who.toNat c) T
 unfold Nd.link; dsimp only; split
 ·refine Cap.all (s := forget { s with cost := up s.cost who.toNat c } who.toNat) (fun k hk => ⟨(h k hk).1, (h k hk).2.1, fun f hf => ?_⟩) 6 (by omega)
  have h1 := (h k hk).2.2 f hf
  have h2 := h0 k hk
  simp only [forget, forgetK]; split <;> omega
 exact Cap.all (s := { s with cost := up s.cost who.toNat c }) h 6 (by omega)
theorem Cap.hearC {s : NS} {T : Nat → Int} (h : Cap s T) {f t q d : Int} (hq : q ≤ T t.toNat) : Cap (hearC s f t q d).1 T := by
 unfold Nd.hearC; split
 ·exact h
 rename_i hb
 simp only [hearBad] at hb
 split
 ·exact h
 refine Cap.pick (s := { s with hS := up2 s.hS f.toNat t.toNat q, hD := up2 s.hD f.toNat t.toNat d }) (by omega) (fun k hk => ⟨(h k hk).1, (h k hk).2.1, fun g hg => ?_⟩)
 have h1 := (h k hk).2.2 g hg
 simp only [up2]; split
 ·rename_i e; rw [e.2]; exact hq
 exact h1
theorem Cap.mono {s : NS} {T U : Nat → Int} (h : Cap s T) (hT : ∀ k, k < 6 → T k ≤ U k) : Cap s U := fun k hk => by
 obtain ⟨a, b, c⟩ := h k hk
 have := hT k hk
 exact ⟨by omega, by omega, fun f hf => by have := c f hf; omega⟩
theorem Cap.tick {s : NS} {T U : Nat → Int} (h : Cap s T) (hT : ∀ k, k < 6 → T k ≤ U k) (hm : s.wS s.me + 1 ≤ U s.me) : Cap (tick s) U := fun k hk => by
 obtain ⟨a, b, c⟩ := Cap.mono h hT k hk
 refine ⟨?_, ?_, c⟩
 ·simp only [Nd.tick, Nd.own, up]; split
  ·rename_i e; rw [e]; exact hm
  exact a
 simp only [Nd.tick, Nd.own, up]; split
 ·rename_i e; rw [e]; simpa using hm
 exact b
theorem fresh_cap {me : Nat} (_hm : me < 6) {T : Nat → Int} (h : ∀ k, k < 6 → 0 ≤ T k) : Cap (fresh me) T := fun k hk => by
 have := h k hk
 refine ⟨?_, ?_, fun f hf => ?_⟩
 ·simp only [Nd.fresh, Nd.own, newK]; exact this
 ·simp only [Nd.fresh, Nd.own, newK, up]; split <;> simpa using this
 simp only [Nd.fresh, Nd.own, newK]; exact this
end Go.Proofs.YtffoilacaffdgaaGreatDoor.Nd
namespace Go.Proofs.YtffoilacaffdgaaGreatDoor.Nt
open Nd
def age (t : NT) (k : Nat) : Int := (t.N k).wS k
structure Nice (s : NS) : Prop where
 bst : Bst s
 wy : Wy s
 w2 : W2 s
theorem Nice.fresh {me : Nat} (h : me < 6) : Nice (fresh me) := ⟨Bst.fresh h, Wy.fresh me, W2.fresh⟩
theorem Nice.linkC {s : NS} (h : Nice s) (ok : Ok s) (who c : Int) : Nice (linkC s who c).1 := ⟨h.bst.linkC who c, h.wy.linkC ok who c, (W2.both ok h.w2).1 who c⟩
theorem Nice.hearC {s : NS} (h : Nice s) (ok : Ok s) (f t q d : Int) : Nice (hearC s f t q d).1 := ⟨h.bst.hearC f t q d, h.wy.hearC ok f t q d, (W2.both ok h.w2).2 f t q d⟩
theorem Nice.tick {s : NS} (h : Nice s) (h0 : 0 ≤ s.wS s.me) : Nice (tick s) := ⟨h.bst.tick, h.wy.tick h0, h.w2.tick⟩
structure Str (t : NT) (n : Nat) : Prop where
 ok : NOk t n
 nice : ∀ b, b < 6 → Nice (t.N b)
 cost : ∀ a b, a < 6 → b < 6 → (t.N a).cost b = t.C a b
 cap : ∀ a, a < 6 → Cap (t.N a) (age t)
 heard : ∀ a f k, a < 6 → f < 6 → k < 6 → betB ((t.N a).hS f k) ((t.N a).hD f k) ((t.N f).bS k) ((t.N f).bD k) = false
 news : ∀ x ∈ t.news, isN x.a ∧ isN x.t ∧ x.a ≠ x.g ∧ x.q ≤ age t x.t.toNat ∧ betB x.q x.d ((t.N x.a.toNat).bS x.t.toNat) ((t.N x.a.toNat).bD x.t.toNat) = false
theorem betB_low {s : NS} (h : Nice s) {k : Nat} (hk : k < 6) : betB 0 200 (s.bS k) (s.bD k) = false := by
 have h1 := h.wy.bS k hk
 have h2 := h.w2.bD k hk
 rw [betB_no]; omega
theorem betB_trans {a b c d e f : Int} (h1 : betB a b c d = false) (h2 : betB c d e f = false) : betB a b e f = false := by
 rw [betB_no] at *; omega
theorem Str.begun : Str begun 0 where
 ok := NOk.begun
 nice b hb := Nice.fresh hb
 cost a b _ _ := by simp [Nt.begun, fresh, own, newK]
 cap a ha := fresh_cap ha (fun k _ => by simp [age, Nt.begun, fresh, own, newK])
 heard a f k ha hf hk := by
  have h1 : ((Nt.begun.N a).hS f k) = 0 := by simp [Nt.begun, fresh, own, newK]
  have h2 : ((Nt.begun.N a).hD f k) = 200 := by simp [Nt.begun, fresh, own, newK, hf, hk]
  rw [h1, h2];exact betB_low (Nice.fresh (me := f) hf) hk
 news x hx := by cases hx
theorem Str.age0 {t : NT} {n : Nat} (h : Str t n) {k : Nat} (hk : k < 6) : 0 ≤ age t k := by
 have := (h.ok.run k hk).lo
 rw [h.ok.me k hk] at this
 exact this
theorem Str.upd {t : NT} {n m : Nat} (h : Str t n) {b : Nat} (hb : b < 6) {s : NS} (hok : NOk { t with N := upN t.N b s } m) (hs : Nice s) (hc : ∀ k, k < 6 → s.cost k = (t.N b).cost k)
  (hw : (t.N b).wS b ≤ s.wS b) (hcap : Cap s (fun k => if k = b then s.wS b else age t k)) (hnw : ∀ k, k < 6 → NW (t.N b) s k)
  (hh : ∀ f k, f < 6 → k < 6 → betB (s.hS f k) (s.hD f k) ((t.N f).bS k) ((t.N f).bD k) = false) : Str { t with N := upN t.N b s } m := by
 have hage : ∀ k, age { t with N := upN t.N b s } k = if k = b then s.wS b else age t k := by
  intro k;show (upN t.N b s k).wS k = _
  by_cases e : k = b
  ·subst e; rw [upN_same, if_pos rfl]
  rw [upN_other _ _ _ _ e, if_neg e]; rfl
 have hle : ∀ k, age t k ≤ age { t with N := upN t.N b s } k := by
  intro k;rw [hage]
  by_cases e : k = b
  ·subst e; rw [if_pos rfl]; exact hw
  rw [if_neg e]; omega
 have hbest : ∀ f k, f < 6 → k < 6 → NW (t.N f) (upN t.N b s f) k := by
  intro f k hf hk;by_cases e : f = b
  ·subst e; rw [upN_same]; exact hnw k hk
  rw [upN_other _ _ _ _ e]; exact NW.refl _ _
 refine ⟨hok, fun a ha => ?_, fun a k ha hk => ?_, fun a ha => ?_, fun a f k ha hf hk => ?_, fun x hx => ?_⟩
 ·show Nice (upN t.N b s a)
  by_cases e : a = b
  ·subst e; rw [upN_same]; exact hs
  rw [upN_other _ _ _ _ e]; exact h.nice a ha
 ·show (upN t.N b s a).cost k = t.C a k
  by_cases e : a = b
  ·subst e; rw [upN_same, hc k hk]; exact h.cost a k ha hk
  rw [upN_other _ _ _ _ e]; exact h.cost a k ha hk
 ·show Cap (upN t.N b s a) _
  by_cases e : a = b
  ·subst e; rw [upN_same]; exact hcap.mono (fun k _ => by rw [hage]; exact Int.le_refl _)
  rw [upN_other _ _ _ _ e]; exact (h.cap a ha).mono (fun k _ => hle k)
 ·show betB ((upN t.N b s a).hS f k) ((upN t.N b s a).hD f k) ((upN t.N b s f).bS k) ((upN t.N b s f).bD k) = false
  have h1 : betB ((upN t.N b s a).hS f k) ((upN t.N b s a).hD f k) ((t.N f).bS k) ((t.N f).bD k) = false := by
   by_cases e : a = b
   ·subst e; rw [upN_same]; exact hh f k hf hk
   rw [upN_other _ _ _ _ e]; exact h.heard a f k ha hf hk
  exact betB_trans h1 (hbest f k hf hk)
 obtain ⟨h1, h2, h3, h4, h5⟩ := h.news x hx
 unfold isN at h1 h2
 refine ⟨h1, h2, h3, Int.le_trans h4 (hle _), betB_trans h5 (hbest _ _ (by omega) (by omega))⟩
theorem hearC_heard {s : NS} (f t q d : Int) (g k : Nat) : ((hearC s f t q d).1.hS g k = s.hS g k ∧ (hearC s f t q d).1.hD g k = s.hD g k) ∨ ((hearC s f t q d).1.hS g k = q ∧ (hearC s f t q d).1.hD g k = d ∧ g = f.toNat ∧ k = t.toNat) := by
 unfold Nd.hearC; split
 ·exact .inl ⟨rfl, rfl⟩
 split
 ·exact .inl ⟨rfl, rfl⟩
 unfold hear
 have h1 := pick_heard { s with hS := up2 s.hS f.toNat t.toNat q, hD := up2 s.hD f.toNat t.toNat d } t.toNat
 rw [h1.1, h1.2.1]
 simp only [up2]
 by_cases e : g = f.toNat ∧ k = t.toNat
 ·exact .inr ⟨if_pos e, if_pos e, e.1, e.2⟩
 exact .inl ⟨if_neg e, if_neg e⟩
theorem linkC_heard {s : NS} (who c : Int) (g k : Nat) : ((linkC s who c).1.hS g k = s.hS g k ∧ (linkC s who c).1.hD g k = s.hD g k) ∨ ((linkC s who c).1.hS g k = 0 ∧ (linkC s who c).1.hD g k = 200) := by
 unfold Nd.linkC; split
 ·exact .inl ⟨rfl, rfl⟩
 show ((link s who.toNat c).hS g k = _ ∧ _) ∨ ((link s who.toNat c).hS g k = _ ∧ _)
 unfold Nd.link; dsimp only; split
 ·rw [(all_heard _ 6).1, (all_heard _ 6).2.1];simp only [forget, forgetK]
  by_cases e : g = who.toNat ∧ k < 6
  ·exact .inr ⟨if_pos e, if_pos e⟩
  exact .inl ⟨if_neg e, if_neg e⟩
 rw [(all_heard _ 6).1, (all_heard _ 6).2.1]
 exact .inl ⟨rfl, rfl⟩
theorem Str.sub {t : NT} {n : Nat} (h : Str t n) {l : List Nw} (hl : ∀ x ∈ l, x ∈ t.news) (hlen : l.length ≤ 40) : Str { t with news := l } n :=
 ⟨⟨h.ok.me, h.ok.run, h.ok.cost, fun x hx => h.ok.g x (hl x hx), hlen⟩, h.nice, h.cost, h.cap, h.heard, fun x hx => h.news x (hl x hx)⟩
theorem Str.mono {t : NT} {n m : Nat} (h : Str t n) (hm : n ≤ m) : Str t m := ⟨h.ok.mono hm, h.nice, h.cost, h.cap, h.heard, h.news⟩
theorem Str.heardT {t : NT} {n : Nat} (h : Str t n) {x : Nw} (hg : isN x.g) (hx : isN x.a ∧ isN x.t ∧ x.a ≠ x.g ∧ x.q ≤ age t x.t.toNat ∧ betB x.q x.d ((t.N x.a.toNat).bS x.t.toNat) ((t.N x.a.toNat).bD x.t.toNat) = false) : Str (Nt.heard t x).1 n := by
 obtain ⟨_, h2, _, h4, h5⟩ := hx
 have hok := NOk.heard h.ok hg
 unfold isN at hg h2
 have hb : x.g.toNat < 6 := by omega
 have hme := h.ok.me _ hb
 have hwS := hearC_wSme (t.N x.g.toNat) x.a x.t x.q x.d
 rw [hme] at hwS
 refine h.upd hb hok ((h.nice _ hb).hearC (h.ok.run _ hb).ok _ _ _ _) (fun k _ => by rw [hearC_cost]) (by rw [hwS]; omega) ?_ (fun k hk => NW.hearC _ _ _ _ _ _) (fun f k hf hk => ?_)
 ·have := (h.cap _ hb).hearC (f := x.a) (t := x.t) (q := x.q) (d := x.d) h4
  refine this.mono (fun k _ => ?_)
  by_cases e : k = x.g.toNat
  ·rw [if_pos e, hwS, e]; exact Int.le_refl _
  rw [if_neg e]; exact Int.le_refl _
 rcases hearC_heard (s := t.N x.g.toNat) x.a x.t x.q x.d f k with ⟨e1, e2⟩ | ⟨e1, e2, e3, e4⟩
 ·rw [e1, e2]; exact h.heard _ f k hb hf hk
 rw [e1, e2, e3, e4]; exact h5
theorem Str.tickOk {t : NT} {n a : Nat} (h : Str t n) (ha : a < 6) : Str (tickOk t a) (n + 1) := by
 have hme := h.ok.me _ ha
 have hwS := tick_wSme (t.N a)
 rw [hme] at hwS
 refine h.upd ha (h.ok.tickOk ha) ((h.nice a ha).tick (h.ok.run a ha).lo) (fun k _ => rfl) (by rw [hwS]; omega) ?_ (fun k hk => NW.tick (h.nice a ha).bst k) (fun f k hf hk => h.heard a f k ha hf hk)
 refine (h.cap a ha).tick (fun k _ => ?_) ?_
 ·by_cases e : k = a
  ·subst e; rw [if_pos rfl, hwS]; unfold age; omega
  rw [if_neg e]; omega
 rw [hme, if_pos rfl, hwS]; omega
theorem Str.tellT {t : NT} {n : Nat} (h : Str t n) (a b : Int) : Str (tellT t a b).1 n := by
 have hok := h.ok.tellT a b
 unfold Nt.tellT at *
 split at hok
 ·rename_i h1; rw [if_pos h1]; exact h
 rename_i h1
 rw [if_neg h1]
 split at hok
 ·rename_i h2; rw [if_pos h2]; exact h
 rename_i h2
 rw [if_neg h2]
 split at hok
 ·rename_i h3; rw [if_pos h3]; exact h
 rename_i h3
 rw [if_neg h3]
 have hab := Classical.not_not.1 h1
 obtain ⟨⟨a0, a1⟩, ⟨b0, b1⟩⟩ := hab
 obtain ⟨p, rfl⟩ := Int.eq_ofNat_of_zero_le a0
 obtain ⟨q, rfl⟩ := Int.eq_ofNat_of_zero_le b0
 rw [Int.toNat_natCast, Int.toNat_natCast] at h2
 have hp : p < 6 := by omega
 have hpq : p ≠ q := fun e => by subst e; exact h2 (h.ok.cost.self p hp)
 refine ⟨hok, h.nice, h.cost, h.cap, h.heard, fun x hx => ?_⟩
 rcases List.mem_append.1 hx with hx | hx
 ·exact h.news x hx
 rw [Int.toNat_natCast] at hx
 simp only [tellW, List.mem_map, List.mem_range] at hx
 obtain ⟨k, hk, rfl⟩ := hx
 have hme := h.ok.me p hp
 refine ⟨⟨by dsimp only; omega, by dsimp only; omega⟩, ⟨by dsimp only; omega, by dsimp only; omega⟩, by dsimp only; omega, ?_, ?_⟩
 ·dsimp only; rw [Int.toNat_natCast]; exact ((h.cap p hp) k hk).1
 dsimp only; rw [Int.toNat_natCast, hme, Int.toNat_natCast]; exact (h.nice p hp).w2.told k hk
theorem Str.tellsT {n : Nat} (a : Int) : ∀ (l : List Nat) {t : NT}, Str t n → Str (tellsT t a l).1 n
 | [], _, h => h
 | b :: l, t, h => by
  rw [Nt.tellsT]; split
  ·exact Str.tellsT a l (h.tellT a b)
  exact h.tellT a b
theorem Str.linkOk {t : NT} {n a b : Nat} {c : Int} (h : Str t n) (ha : a < 6) (hb : b < 6) (hab : a ≠ b) (h0 : 0 ≤ c) (h1 : c ≤ 15) : Str (linkOk t a b c) n := by
 have key : ∀ (u v : Nat), u < 6 → v < 6 → u ≠ v → ∀ s : NS, s.me = u → Nice s → Run s n → (linkC s v c).1.cost = up s.cost v c ∧ (linkC s v c).1.wS u = s.wS u := by
  intro u v hu hv huv s hs hn hr
  have hc : (linkC s v c).2 = 0 := by
   unfold Nd.linkC;rw [if_neg (by simp only [linkBad]; omega)]
  refine ⟨?_, ?_⟩
  ·have := (linkC_cost_ok hc).2
   rwa [Int.toNat_natCast] at this
  have := linkC_wSme s v c
  rwa [hs] at this
 obtain ⟨ka1, ka2⟩ := key a b ha hb hab (t.N a) (h.ok.me a ha) (h.nice a ha) (h.ok.run a ha)
 obtain ⟨kb1, kb2⟩ := key b a hb ha (Ne.symm hab) (t.N b) (h.ok.me b hb) (h.nice b hb) (h.ok.run b hb)
 -- all nodes, as they are then
 have hN : ∀ k, k < 6 → ∃ who, (upN (upN t.N a (Nd.linkC (t.N a) b c).1) b (Nd.linkC (t.N b) a c).1 k) = t.N k ∧ k ≠ a ∧ k ≠ b ∨ (k = a ∨ k = b) ∧ who < 6 ∧ (upN (upN t.N a (Nd.linkC (t.N a) b c).1) b (Nd.linkC (t.N b) a c).1 k) = (Nd.linkC (t.N k) ((who : Nat) : Int) c).1 ∧ (k = a → who = b) ∧ (k = b → who = a) := by
  intro k hk;by_cases e : k = b
  ·subst e;exact ⟨a, .inr ⟨.inr rfl, ha, by rw [upN_same], fun h => absurd h.symm hab, fun _ => rfl⟩⟩
  by_cases e' : k = a
  ·subst e'
   exact ⟨b, .inr ⟨.inl rfl, hb, by rw [upN_other _ _ _ _ e, upN_same], fun _ => rfl, fun h => absurd h e⟩⟩
  exact ⟨0, .inl ⟨by rw [upN_other _ _ _ _ e, upN_other _ _ _ _ e'], e', e⟩⟩
 have hage : ∀ k, k < 6 → age (Nt.linkOk t a b c) k = age t k := by
  intro k hk;show (upN (upN t.N a _) b _ k).wS k = _
  obtain ⟨who, ⟨e, _⟩ | ⟨hh, _, e, e1, e2⟩⟩ := hN k hk
  ·rw [e]; rfl
  rw [e];have := linkC_wSme (t.N k) (who : Int) c
  rwa [h.ok.me k hk] at this
 have hnw : ∀ f k, f < 6 → NW (t.N f) (upN (upN t.N a (Nd.linkC (t.N a) b c).1) b (Nd.linkC (t.N b) a c).1 f) k := by
  intro f k hf;obtain ⟨who, ⟨e, _⟩ | ⟨_, _, e, _⟩⟩ := hN f hf
  ·rw [e]; exact NW.refl _ _
  rw [e]; exact NW.linkC _ _ _ _
 refine ⟨h.ok.linkOk ha hb hab h0 h1, fun k hk => ?_, fun k j hk hj => ?_, fun k hk => ?_, fun k f j hk hf hj => ?_, fun x hx => ?_⟩
 ·show Nice (upN (upN t.N a _) b _ k)
  obtain ⟨who, ⟨e, _⟩ | ⟨_, _, e, _⟩⟩ := hN k hk
  ·rw [e]; exact h.nice k hk
  rw [e]; exact (h.nice k hk).linkC (h.ok.run k hk).ok _ _
 ·show (upN (upN t.N a _) b _ k).cost j = setC t.C a b c k j
  have hold := h.cost k j hk hj
  by_cases e : k = b
  ·subst e;rw [upN_same, kb1]
   simp only [up, setC, updC]
   by_cases e2 : j = a
   ·rw [if_pos e2, if_pos ⟨trivial, e2⟩]
   rw [if_neg e2, if_neg (fun h => e2 h.2), if_neg (fun h => hab h.1.symm)]; exact hold
  by_cases e' : k = a
  ·subst e'
   rw [upN_other _ _ _ _ e, upN_same, ka1];simp only [up, setC, updC]
   by_cases e2 : j = b
   ·rw [if_pos e2, if_neg (fun h => e h.1), if_pos ⟨trivial, e2⟩]
   rw [if_neg e2, if_neg (fun h => e h.1), if_neg (fun h => e2 h.2)]; exact hold
  rw [upN_other _ _ _ _ e, upN_other _ _ _ _ e'];simp only [setC, updC]
  rw [if_neg (fun h => e h.1), if_neg (fun h => e' h.1)];exact hold
 ·show Cap (upN (upN t.N a _) b _ k) _
  have hc := (h.cap k hk).mono (U := age (Nt.linkOk t a b c)) (fun j hj => by rw [hage j hj]; exact Int.le_refl _)
  obtain ⟨who, ⟨e, _⟩ | ⟨_, _, e, _⟩⟩ := hN k hk
  ·rw [e]; exact hc
  rw [e]; exact hc.linkC (fun j hj => by rw [hage j hj]; exact h.age0 hj) _ _
 ·show betB ((upN (upN t.N a _) b _ k).hS f j) ((upN (upN t.N a _) b _ k).hD f j) ((upN (upN t.N a _) b _ f).bS j) ((upN (upN t.N a _) b _ f).bD j) = false
  refine betB_trans ?_ (hnw f j hf)
  obtain ⟨who, ⟨e, _⟩ | ⟨_, _, e, _⟩⟩ := hN k hk
  ·rw [e]; exact h.heard k f j hk hf hj
  rw [e];rcases linkC_heard (s := t.N k) (who : Int) c f j with ⟨e1, e2⟩ | ⟨e1, e2⟩
  ·rw [e1, e2]; exact h.heard k f j hk hf hj
  rw [e1, e2]; exact betB_low (h.nice f hf) hj
 obtain ⟨h1, h2, h3, h4, h5⟩ := h.news x hx
 have g1 := h1
 have g2 := h2
 unfold isN at g1 g2
 exact ⟨h1, h2, h3, by rw [hage _ (by omega)]; exact h4, betB_trans h5 (hnw _ _ (by omega))⟩
theorem lost_sub {t : NT} {k : Nat} {x : Nw} (h : x ∈ (lost t k).news) : x ∈ t.news := by
 rcases List.mem_append.1 h with h | h
 ·exact List.mem_of_mem_take h
 exact List.mem_of_mem_drop h
theorem Str.lost {t : NT} {n : Nat} (h : Str t n) (k : Nat) : Str (lost t k) n := h.sub (l := (Nt.lost t k).news) (fun _ hx => lost_sub hx) (h.ok.lost k).len
theorem Str.doT {t : NT} {n : Nat} (h : Str t n) (k a b c : Int) : Str (doT t k a b c).1 (n + 1) := by
 have hm := h.mono (Nat.le_succ n)
 unfold Nt.doT
 split
 ·unfold Nt.linkT; split
  ·exact hm
  rename_i hb
  simp only [setBad, Classical.not_not] at hb
  exact hm.linkOk (by omega) (by omega) (by omega) (by omega) (by omega)
 split
 ·unfold Nt.tickT; split
  ·exact hm
  rename_i hn
  have hn : isN a := Classical.not_not.1 hn
  exact Str.tellsT a _ (h.tickOk (by unfold isN at hn; omega))
 split
 ·exact hm.tellT a b
 split
 ·unfold Nt.hearT; split
  ·exact hm
  rename_i ho
  have hx := nwAt_mem (out_no ho)
  exact Str.heardT (hm.lost _) (h.ok.g _ hx) (h.news _ hx)
 split
 ·unfold Nt.loseT; split
  ·exact hm
  exact hm.lost _
 split
 ·have hok := hm.ok.dblT c
  unfold Nt.dblT at *; split
  ·exact hm
  rename_i ho
  rw [if_neg ho] at hok;split
  ·exact hm
  rename_i hl
  rw [if_neg hl] at hok;refine hm.sub (fun x hx => ?_) hok.len
  rcases List.mem_append.1 hx with hx | hx
  ·exact hx
  rw [List.mem_singleton.1 hx]; exact nwAt_mem (out_no ho)
 exact hm
end Go.Proofs.YtffoilacaffdgaaGreatDoor.Nt
namespace Go.Proofs.YtffoilacaffdgaaGreatDoor
open Go.RowKit Go.Deep
structure TIds where
 b : Nat
 N : Nat → Nat
 own : Value
def tnF (y : TIds) (u : Value) (C : Nat → Nat → Int) (i : Nat) : Value := if i < 36 then .int .i64 (C (i / 6) (i % 6)) else if i < 42 then .pointer (some ⟨y.N (i - 36), 0, none⟩) else if i = 42 then u else y.own
def FtT (y : TIds) (u : Value) (i : Nat) : Prop := i = y.b ∨ (∃ k, k < 6 ∧ i = y.N k) ∨ u.ownBlock = some i
structure TnAt (w : World) (y : TIds) (u : Value) (t : Nt.NT) : Prop where
 row : w.rowIs y.b 70 44 (tnF y u t.C)
 node : ∀ k, k < 6 → NAt w (y.N k) 119 (t.N k)
 news : SlN w 0 u t.news.length (nwI t.news)
 inj : ∀ j k, j < 6 → k < 6 → y.N j = y.N k → j = k
section
variable {w : World} {y : TIds} {u : Value} {t : Nt.NT} (h : TnAt w y u t)
include h
theorem TnAt.cM {a b : Nat} (ha : a < 6) (hb : b < 6) : w.cell? ⟨y.b, a * 6 + b, none⟩ = some (.int .i64 (t.C a b)) := by
 have := rC h.row (i := a * 6 + b) (by omega)
 rw [tnF, if_pos (by omega), show (a * 6 + b) / 6 = a from by omega, show (a * 6 + b) % 6 = b from by omega] at this
 exact this
theorem TnAt.cN {k : Nat} (hk : k < 6) : w.cell? ⟨y.b, 36 + k, none⟩ = some (.pointer (some ⟨y.N k, 0, none⟩)) := by
 have := rC h.row (i := 36 + k) (by omega)
 rw [tnF, if_neg (by omega), if_pos (by omega), show 36 + k - 36 = k from by omega] at this
 exact this
theorem TnAt.c42 : w.cell? ⟨y.b, 42, none⟩ = some u := rC h.row (i := 42) (by omega)
theorem TnAt.fz (i : Nat) : w.frozen? ⟨y.b, i, none⟩ = false := rF h.row i
theorem TnAt.bN {k : Nat} (hk : k < 6) : y.b ≠ y.N k := rows_apart h.row (h.node k hk) (by decide)
theorem TnAt.bv : ¬ u.ownBlock = some y.b := row_own_apart h.row h.news (by decide)
theorem TnAt.Nv {k : Nat} (hk : k < 6) : ¬ u.ownBlock = some (y.N k) := row_own_apart (h.node k hk) h.news (by decide)
theorem TnAt.lt {i : Nat} (hi : FtT y u i) : i < w.heap.size := by
 rcases hi with rfl | ⟨k, hk, rfl⟩ | hi
 ·exact World.rowIs.lt h.row
 ·exact (h.node k hk).lt
 exact (oL h.news i hi).2
theorem TnAt.keep {S : Nat → Prop} {w' : World} (hf : Fr S w w') (hS : ∀ i, FtT y u i → ¬ S i) : TnAt w' y u t :=
 ⟨hf.row h.row (hS _ (.inl rfl)), fun k hk => (h.node k hk).keep hf (hS _ (.inr (.inl ⟨k, hk, rfl⟩))), own_keep h.news hf (fun g hg => hS g (.inr (.inr hg))), h.inj⟩
theorem TnAt.keep0 {w' : World} (hf : Fr NoB w w') : TnAt w' y u t := h.keep hf (fun _ _ h => h)
theorem TnAt.setN {k : Nat} (hk : k < 6) {w' : World} {s : Nd.NS} (hs : NAt w' (y.N k) 119 s) (hf : Fr (OneB (y.N k)) w w') : TnAt w' y u { t with N := Nt.upN t.N k s } where
 row := hf.row h.row (fun e => h.bN hk e)
 node j hj := by
  show NAt w' (y.N j) _ (Nt.upN t.N k s j)
  by_cases e : j = k
  ·subst e; rw [Nt.upN_same]; exact hs
  rw [Nt.upN_other _ _ _ _ e]; exact (h.node j hj).keep hf (fun e' => e (h.inj j k hj hk e'))
 news := own_keep h.news hf (fun g hg e => by cases e; exact h.Nv hk hg)
 inj := h.inj
theorem TnAt.setV {w' : World} {u' : Value} {l : List Nt.Nw} (hv : SlN w' 0 u' l.length (nwI l)) (hf : Fr (fun i => u.ownBlock = some i) w w') : TnAt (w'.setCell ⟨y.b, 42, none⟩ u') y u' { t with news := l } := by
 have hrow := hf.row h.row h.bv
 have hb : ¬ u'.ownBlock = some y.b := row_own_apart hrow hv (by decide)
 have hfs : Fr (OneB y.b) w' (w'.setCell ⟨y.b, 42, none⟩ u') := (Fr.refl _ _).set1 _ _
 refine ⟨(World.rowIs.set hrow 42 u').congr (fun i hi => ?_), fun k hk => ((h.node k hk).keep hf (h.Nv hk)).keep hfs (fun e => h.bN hk e.symm), own_keep hv hfs (fun g hg e => by cases e; exact hb hg), h.inj⟩
 unfold tnF
 by_cases e : i = 42
 ·subst e; simp
 rw [if_neg e]
 by_cases e0 : i < 36
 ·rw [if_pos e0, if_pos e0]
 rw [if_neg e0, if_neg e0]
 by_cases e1 : i < 42
 ·rw [if_pos e1, if_pos e1]
 rw [if_neg e1, if_neg e1, if_neg e, if_neg e]
theorem TnAt.setM {p q : Nat} (hp : p < 6) (hq : q < 6) (v : Int) : TnAt ((w.setCell ⟨y.b, p * 6 + q, none⟩ (.int .i64 v)).setCell ⟨y.b, q * 6 + p, none⟩ (.int .i64 v)) y u { t with C := setC t.C p q v } := by
 have hf : Fr (OneB y.b) w ((w.setCell ⟨y.b, p * 6 + q, none⟩ (.int .i64 v)).setCell ⟨y.b, q * 6 + p, none⟩ (.int .i64 v)) := ((Fr.refl _ _).set1 _ _).set1 _ _
 refine ⟨(World.rowIs.set (World.rowIs.set h.row (p * 6 + q) _) (q * 6 + p) _).congr (fun i hi => ?_), fun k hk => (h.node k hk).keep hf (fun e => h.bN hk e.symm), own_keep h.news hf (fun g hg e => by cases e; exact h.bv hg), h.inj⟩
 unfold tnF
 show _ = (if i < 36 then Value.int .i64 (setC t.C p q v (i / 6) (i % 6)) else _)
 unfold setC updC
 by_cases e : i = q * 6 + p
 ·subst e;rw [if_pos rfl, if_pos (by omega), if_pos ⟨by omega, by omega⟩]
 rw [if_neg e]
 by_cases e1 : i = p * 6 + q
 ·subst e1;rw [if_pos rfl, if_pos (by omega), if_neg (by omega), if_pos ⟨by omega, by omega⟩]
 rw [if_neg e1]
 by_cases e0 : i < 36
 ·rw [if_pos e0, if_pos e0, if_neg (by omega), if_neg (by omega)]
 rw [if_neg e0, if_neg e0]
end
theorem TnAt.drewN {w : World} {y : TIds} {u : Value} {t : Nt.NT} (h : TnAt w y u t) (n : Nat) : TnAt (w.drewN n) y u t := ⟨h.row, h.node, h.news, h.inj⟩
def TnDo (y : TIds) (u : Value) (t : Nt.NT) (c : Int) (w : World) (e : Ending) (w' : World) : Prop :=
 ∃ u', e = .returned (.int .i64 c) ∧ TnAt w' y u' t ∧ Fr (FtT y u) w w' ∧ ∀ g, u'.ownBlock = some g → u.ownBlock = some g ∨ w.heap.size ≤ g
theorem TnDo.none {y : TIds} {u : Value} {t : Nt.NT} {c : Int} {w w' : World} (h : TnAt w' y u t) (hf : Fr (FtT y u) w w') : TnDo y u t c w (.returned (.int .i64 c)) w' := ⟨u, rfl, h, hf, fun _ hg => .inl hg⟩
theorem TnDo.after {y : TIds} {u : Value} {t : Nt.NT} {c : Int} {w w0 w' : World} {e : Ending} (hf : Fr NoB w w0) (h : TnDo y u t c w0 e w') : TnDo y u t c w e w' := by
 obtain ⟨v', he, ha, hf', hg⟩ := h
 exact ⟨v', he, ha, (hf.mono (fun _ _ h => h.elim)).trans hf', fun g hg' => by rcases hg g hg' with h | h; exact .inl h; exact .inr (by have := hf.size; omega)⟩
theorem FtT.grow {y : TIds} {u u0 : Value} {n i : Nat} (h : ∀ g, u.ownBlock = some g → u0.ownBlock = some g ∨ n ≤ g) (hi : FtT y u i) : FtT y u0 i ∨ n ≤ i := by
 rcases hi with hi | hi | hi
 ·exact .inl (.inl hi)
 ·exact .inl (.inr (.inl hi))
 rcases h i hi with h | h
 ·exact .inl (.inr (.inr h))
 exact .inr h
theorem Fr.growT {y : TIds} {u u0 : Value} {w wr w' : World} (h1 : Fr (FtT y u0) w wr) (h : ∀ g, u.ownBlock = some g → u0.ownBlock = some g ∨ w.heap.size ≤ g) (h2 : Fr (FtT y u) wr w') : Fr (FtT y u0) w w' :=
 h1.trans' h2 (fun i hi h' => by rcases FtT.grow h h' with h | h; exact h; omega)
theorem MSet_at (b x y : Nat) (v : Int) (z1 z2 : Int) (w : World) (hx : x < 6) (hy : y < 6) (hxy : x ≠ y) (h0 : 0 ≤ v) (h1 : v ≤ 15)
  (c1 : w.cell? ⟨b, x * 6 + y, none⟩ = some (.int .i64 z1)) (c2 : w.cell? ⟨b, y * 6 + x, none⟩ = some (.int .i64 z2)) (f1 : w.frozen? ⟨b, x * 6 + y, none⟩ = false) (f2 : w.frozen? ⟨b, y * 6 + x, none⟩ = false) :
  Calls Tryz.prog 93 #[.pointer (some ⟨b, 0, none⟩), .int .i64 x, .int .i64 y, .int .i64 v] w fun e w' => e = .returned (.int .i64 0) ∧ w' = (w.setCell ⟨b, x * 6 + y, none⟩ (.int .i64 v)).setCell ⟨b, y * 6 + x, none⟩ (.int .i64 v) := by
 have hb : ((x : Int) == (y : Int)) = false := by simp; omega
 go_enter Tryz.func93, Tryz.ntmps93
 go_wp2_with (first | (go_at_call 60; refine (RNode_yes _ _ (by omega) (by omega)).mono ?_; rintro e w' ⟨rfl, rfl⟩))
 go_ret
 exact ⟨rfl, rfl⟩
theorem Ttell_any (y : TIds) (u : Value) (t : Nt.NT) (a b : Int) (m : Nat) (w : World) (hr : Nt.NOk t m) (h : TnAt w y u t) :
  Calls Tryz.prog 96 #[.pointer (some ⟨y.b, 0, none⟩), .int .i64 a, .int .i64 b] w (TnDo y u (Nt.tellT t a b).1 (Nt.tellT t a b).2 w) := by
 by_cases ha : Nt.isN a
 ·by_cases hb : Nt.isN b
  ·obtain ⟨p, rfl⟩ := Int.eq_ofNat_of_zero_le ha.1
   obtain ⟨q, rfl⟩ := Int.eq_ofNat_of_zero_le hb.1
   have hp : p < 6 := by have := ha.2; omega
   have hq : q < 6 := by have := hb.2; omega
   have hab : ¬ ¬ (Nt.isN p ∧ Nt.isN q) := fun h => h ⟨ha, hb⟩
   clear ha hb;have cM := h.cM hp hq
   have H := zh h; clear h; have HR := zh hr; clear hr;by_cases hz : t.C p q = 0
   ·have e : Nt.tellT t p q = (t, 6) := by rw [Nt.tellT, if_neg hab, Int.toNat_natCast, Int.toNat_natCast, if_pos hz]
    rw [e];have hzb : (t.C p q == 0) = true := by simp [hz]
    clear e hab hz;go_enter Tryz.func96, Tryz.ntmps96
    go_wp2_with (first | (go_at_call 60; refine (RNode_yes _ _ (by omega) (by omega)).mono ?_; rintro e w' ⟨rfl, rfl⟩))
    go_ret
    exact TnDo.none H.out (Fr.refl _ _)
   have hzb : (t.C p q == 0) = false := by simpa using hz
   obtain ⟨av, cv, rfl, j⟩ := ownsRow_rd H.out.news
   clear j;have c42 := H.out.c42
   have hl40 := HR.out.len
   have hsum := IntWalk.i64_in ((t.news.length : Int) + 6) (by omega)
   by_cases hl : 40 < t.news.length + 6
   ·have e : Nt.tellT t p q = (t, 9) := by rw [Nt.tellT, if_neg hab, Int.toNat_natCast, Int.toNat_natCast, if_neg hz, if_pos hl]
    rw [e];clear e hab hz
    have hlb : decide ((40 : Int) < (t.news.length : Int) + 6) = true := by simp; omega
    have HL40 := zh hl40; clear hl40;clear hl
    go_enter Tryz.func96, Tryz.ntmps96
    go_wp2_with (first | (go_at_call 60; refine (RNode_yes _ _ (by omega) (by omega)).mono ?_; rintro e w' ⟨rfl, rfl⟩))
    go_ret
    exact TnDo.none H.out (Fr.refl _ _)
   have e : Nt.tellT t p q = ({ t with news := t.news ++ Nt.tellW (t.N p) q 6 }, 0) := by rw [Nt.tellT, if_neg hab, Int.toNat_natCast, Int.toNat_natCast, if_neg hz, if_neg hl]
   rw [e];clear e hab hz
   have hlb : decide ((40 : Int) < (t.news.length : Int) + 6) = false := by simp; omega
   have HL40 := zh hl40; clear hl40;clear hl
   have c1 := H.out.cN hp
   go_enter Tryz.func96, Tryz.ntmps96
   go_wp2_with (first | (go_at_call 60; refine (RNode_yes _ _ (by omega) (by omega)).mono ?_; rintro e w' ⟨rfl, rfl⟩))
   have hwd : w.drew.heap.size = w.heap.size := rfl
   have hpi : (p : Int) < 6 := by omega
   have key : ∀ (w1 : World) (v1 : Value), SlN w1 w.heap.size v1 6 (Nd.tellL (t.N p) q 6) → Fr NoB w w1 → TnAt w1 y (.slice av t.news.length cv) t ∧ w1.cell? ⟨y.b, 42, none⟩ = some (.slice av t.news.length cv) ∧ w1.frozen? ⟨y.b, 42, none⟩ = false ∧ ∃ g1 cap1, v1 = .slice (some ⟨g1, 0, none⟩) 6 cap1 := by
    intro w1 v1 hv1 hf;refine ⟨H.out.keep0 hf, cell_fr hf c42 (fun h => h), rF (hf.row H.out.row (fun h => h)) 42, ?_⟩
    rcases hv1.2 with ⟨_, h0⟩ | ⟨g, cap, cur, h2, _⟩
    ·omega
    exact ⟨g, cap, h2⟩
   have key2 : ∀ (w1 : World), TnAt w1 y (.slice av t.news.length cv) t → Fr NoB w w1 → ∀ (g cap : Nat) (w2 : World), w2.ownsRow 0 98 5 (.slice (some ⟨g, 0, none⟩) (t.news.length + 6) cap) (t.news.length + 6) ((nwI t.news).map (Value.int .i64) ++ (Nd.tellL (t.N p) q 6).map (Value.int .i64)) → Fr (fun i => (Value.slice av t.news.length cv).ownBlock = some i) w1 w2 → ((Value.slice av t.news.length cv).ownBlock = some g ∨ w1.heap.size ≤ g) →
     w2.cell? ⟨y.b, 42, none⟩ = some (.slice av t.news.length cv) ∧ w2.frozen? ⟨y.b, 42, none⟩ = false ∧ Hid (TnDo y (.slice av t.news.length cv) { t with news := t.news ++ Nt.tellW (t.N p) q 6 } 0 w (.returned (.int .i64 0)) (w2.setCell ⟨y.b, 42, none⟩ (.slice (some ⟨g, 0, none⟩) (t.news.length + 6) cap))) := by
    intro w1 h1 hf1 g cap w2 h2 hf hlie;have hll : (t.news ++ Nt.tellW (t.N p) q 6).length = t.news.length + 6 := by rw [List.length_append, Nt.tellW_len]
    have hv2 : SlN w2 0 (.slice (some ⟨g, 0, none⟩) (t.news.length + 6) cap) (t.news ++ Nt.tellW (t.N p) q 6).length (nwI (t.news ++ Nt.tellW (t.N p) q 6)) := by
     rw [hll, nwI_app, ← nwI_tell];unfold SlN
     rw [List.map_append];exact h2
    refine ⟨cell_fr hf h1.c42 h1.bv, rF (hf.row h1.row h1.bv) 42, ⟨_, rfl, h1.setV hv2 hf, ((hf1.mono (fun _ _ h => h.elim)).trans (hf.mono (fun _ _ h => .inr (.inr h)))).setCell (p := ⟨y.b, 42, none⟩) (.inl (.inl rfl)) _, fun g' hg' => ?_⟩⟩
    simp only [Value.ownBlock, Option.some.injEq] at hg'
    subst hg'
    rcases hlie with h | h
    ·exact .inl h
    exact .inr (by have := hf1.size; omega)
   have KEY := zh key; clear key; have KEY2 := zh key2; clear key2
   go_region_law (first | (go_simp; go_at_call 129; refine (MTell_any (y.N p) q (t.N p) _ (by exact H.out.node p hp)).mono ?_; rintro e w1 ⟨v1, rfl, hv1, hf0⟩; have hf := (Fr.refl NoB w).drew.trans hf0; clear hf0; obtain ⟨h1, q7, qf, g1, cap1, rfl⟩ := KEY.out _ _ hv1 hf; have HV1 := zh hv1; clear hv1; have HF1 := zh hf; clear hf; have H1 := zh h1; clear h1) | (refine step_lies (by rfl) (.tmp 35) (.tmp 43) 67 98 5 40 (.agg #[.int .i64 0, .int .i64 0, .int .i64 0, .int .i64 0, .int .i64 0]) (by rfl) Tryz.underlying67 Tryz.info98 rfl (by omega) 0 (.slice av t.news.length cv) t.news.length _ (by rfl) H1.out.news ⟨g1, 0, none⟩ 6 cap1 ((Nd.tellL (t.N p) q 6).map (Value.int .i64)) (by rfl) (by rw [List.length_map, Nd.tellL_len]) (fun j u hu => news_rd HV1.out j u g1 rfl hu) (by intro u hu; obtain ⟨y, _, rfl⟩ := List.mem_map.1 hu; rfl) (by omega) (by have := HL40.out; omega) (by omega) (by omega) ?_; intro g cap w2 h2 hf hlie; obtain ⟨q7', qf', HFIN⟩ := KEY2.out _ H1.out (by exact HF1.out) g cap w2 h2 hf hlie; clear h2 hf hlie))
   all_goals (clear q7 qf q7' qf' HV1 HF1 H1; go_wp2; go_ret; exact HFIN.out)
  have e : Nt.tellT t a b = (t, 1) := by rw [Nt.tellT, if_pos (fun h => hb h.2)]
  rw [e];clear e
  have H := zh h; clear h; have HR := zh hr; clear hr; have HB := zh hb; clear hb;obtain ⟨a0, a1⟩ := ha
  go_enter Tryz.func96, Tryz.ntmps96
  go_wp2_with fail;refine (RNode_yes _ _ a0 a1).mono ?_; rintro e w' ⟨rfl, rfl⟩
  go_wp2_with fail;refine (RNode_no _ _ HB.out).mono ?_; rintro e w' ⟨rfl, rfl⟩
  go_wp2;go_ret
  exact TnDo.none H.out (Fr.refl _ _)
 have e : Nt.tellT t a b = (t, 1) := by rw [Nt.tellT, if_pos (fun h => ha h.1)]
 rw [e]
 clear e
 have H := zh h; clear h; have HR := zh hr; clear hr; have HA := zh ha; clear ha
 go_enter Tryz.func96, Tryz.ntmps96
 go_wp2_with fail
 refine (RNode_no _ _ HA.out).mono ?_; rintro e w' ⟨rfl, rfl⟩
 go_wp2
 go_ret
 exact TnDo.none H.out (Fr.refl _ _)
theorem TWay_any (y : TIds) (u : Value) (t : Nt.NT) (a b : Int) (w : World) (h : TnAt w y u t) :
  Calls Tryz.prog 36 #[.pointer (some ⟨y.b, 0, none⟩), .int .i64 a, .int .i64 b] w (WayFr (if Nt.isN a then Nd.wayAt (t.N a.toNat) b else Nd.noWay) w) := by
 by_cases ha : Nt.isN a
 ·rw [if_pos ha];obtain ⟨p, rfl⟩ := Int.eq_ofNat_of_zero_le ha.1
  rw [Int.toNat_natCast];have hp : p < 6 := by have := ha.2; omega
  have c1 := h.cN hp
  have hbl := h.lt (.inl rfl)
  have hpi : (p : Int) < 6 := by omega
  clear ha;have H := zh h; clear h
  go_enter Tryz.func36, Tryz.ntmps36
  go_wp2_with fail;refine (RNode_yes _ _ (by omega) (by omega)).mono ?_; rintro e w' ⟨rfl, rfl⟩
  go_wp2_with fail;refine (MWay_any (y.N p) b (t.N p) _ ((H.out.node p hp).alloc _)).mono ?_
  rintro e w1 ⟨rfl, hf⟩
  have hr := hf.row (rowIs_new w 3 (.int .i64 0) 95) (fun h => h)
  have hf1 : Fr NoB w w1 := ((Fr.refl _ w).alloc _).trans hf
  have z0 := rC hr (i := 0) (by omega)
  have z1 := rC hr (i := 1) (by omega)
  have z2 := rC hr (i := 2) (by omega)
  have y0 := rF hr 0
  have y1 := rF hr 1
  have y2 := rF hr 2
  clear hf H c1 hbl;have HF := zh hf1; clear hf1; have HR := zh hr; clear hr
  generalize hpz : w.heap.size = pz at *;generalize hwy : Nd.wayAt (t.N p) b = wy at *
  have HWY := zh hwy; clear hwy;obtain ⟨wa, wb, wc⟩ := wy
  unfold way3;go_wp2
  refine bodyPost_ret (v := .agg #[.int .i64 wa, .int .i64 wb, .int .i64 wc]) ?_ rfl ⟨rfl, ((HF.out.setNew (by omega) _ _).setNew (by omega) _ _).setNew (by omega) _ _⟩
  have hR := World.rowIs.set (World.rowIs.set (World.rowIs.set HR.out 0 (.int .i64 wa)) 1 (.int .i64 wb)) 2 (.int .i64 wc)
  have s0 := rC hR (i := 0) (by omega)
  have s1 := rC hR (i := 1) (by omega)
  have s2 := rC hR (i := 2) (by omega)
  clear hR;generalize ((w1.setCell ⟨pz, 0, none⟩ (.int .i64 wa)).setCell ⟨pz, 1, none⟩ (.int .i64 wb)).setCell ⟨pz, 2, none⟩ (.int .i64 wc) = W5 at *
  simp at s0 s1 s2
  simp [results, Tryz.results36, go_sem, s0, s1, s2]
 rw [if_neg ha]
 clear h
 have HA := zh ha; clear ha
 go_enter Tryz.func36, Tryz.ntmps36
 go_wp2_with fail
 refine (RNode_no _ _ HA.out).mono ?_; rintro e w' ⟨rfl, rfl⟩
 go_wp2
 refine bodyPost_ret (v := way3 Nd.noWay) ?_ rfl ⟨rfl, (Fr.refl _ _).alloc _⟩
 simp [results, Tryz.results36, go_sem, way3, Nd.noWay]
def NewTPost (w : World) (e : Ending) (w' : World) : Prop := ∃ (y : TIds) (u : Value), e = .returned (.pointer (some ⟨y.b, 0, none⟩)) ∧ TnAt w' y u Nt.begun ∧ Fr NoB w w' ∧ (∀ i, FtT y u i → w.heap.size ≤ i) ∧ y.own = .slice none 0 0
def tnF0 (N : Nat → Nat) (k : Nat) (j : Nat) : Value := if j < 36 then .int .i64 0 else if j < 42 then (if j - 36 < k then .pointer (some ⟨N (j - 36), 0, none⟩) else .pointer none) else .slice none 0 0
def NewTRel (w : World) (b : Nat) (i : Value) (wr : World) : Prop :=
 ∃ (k : Nat) (N : Nat → Nat), k ≤ 6 ∧ i = .int .i64 k ∧ wr.rowIs b 70 44 (tnF0 N k) ∧
  (∀ j, j < k → NAt wr (N j) 119 (Nd.fresh j)) ∧ (∀ j, j < k → w.heap.size ≤ N j) ∧ (∀ j l, j < k → l < k → N j = N l → j = l) ∧ w.heap.size ≤ b ∧ Fr NoB w wr
theorem NewTn (w : World) : Calls Tryz.prog 14 #[] w (NewTPost w) := by
 go_enter Tryz.func14, Tryz.ntmps14
 go_wp2
 refine wp_name fun w2 hw2 => ?_
 have hf : Fr NoB w w2 := by rw [hw2]; exact (Fr.refl _ _).alloc _
 have hrow : w2.rowIs w.heap.size 70 44 (tnF0 (fun _ => 0) 0) := by
  rw [hw2]
  exact World.rowIs_alloc w _ _ _ (fun i hi => by
   have hi' : i < 44 := hi
   match i, hi' with
   | 0, _ => rfl
   | 1, _ => rfl
   | 2, _ => rfl
   | 3, _ => rfl
   | 4, _ => rfl
   | 5, _ => rfl
   | 6, _ => rfl
   | 7, _ => rfl
   | 8, _ => rfl
   | 9, _ => rfl
   | 10, _ => rfl
   | 11, _ => rfl
   | 12, _ => rfl
   | 13, _ => rfl
   | 14, _ => rfl
   | 15, _ => rfl
   | 16, _ => rfl
   | 17, _ => rfl
   | 18, _ => rfl
   | 19, _ => rfl
   | 20, _ => rfl
   | 21, _ => rfl
   | 22, _ => rfl
   | 23, _ => rfl
   | 24, _ => rfl
   | 25, _ => rfl
   | 26, _ => rfl
   | 27, _ => rfl
   | 28, _ => rfl
   | 29, _ => rfl
   | 30, _ => rfl
   | 31, _ => rfl
   | 32, _ => rfl
   | 33, _ => rfl
   | 34, _ => rfl
   | 35, _ => rfl
   | 36, _ => rfl
   | 37, _ => rfl
   | 38, _ => rfl
   | 39, _ => rfl
   | 40, _ => rfl
   | 41, _ => rfl
   | 42, _ => rfl
   | 43, _ => rfl
   | n + 44, h => exact absurd h (by omega))
 clear hw2
 have hz : w.heap.size ≤ w.heap.size := Nat.le_refl _
 generalize hb' : w.heap.size = b at *
 have hz : w.heap.size ≤ b := by omega
 clear hb'
 have HF := zh hf; clear hf; have HRO := zh hrow; clear hrow; have HZ := zh hz; clear hz
 go_loopw [2] (fun i wr => NewTRel w b i wr) (fun i _ => 6 - (intOf i).toNat)
 case atStart => exact ⟨0, fun _ => 0, by omega, rfl, HRO.out, fun j h => by omega, fun j h => by omega, fun j l h => by omega, HZ.out, HF.out⟩
 case round =>
  clear HF HRO HZ;obtain ⟨k, N, hk, rfl, hrow, hn, hN, hinj, hb, hf⟩ := hrel
  have HRO := zh hrow; clear hrow; have HN := zh hn; clear hn; have HNN := zh hN; clear hN; have HI := zh hinj; clear hinj; have HB := zh hb; clear hb; have HF := zh hf; clear hf;by_cases hk6 : k < 6
  ·have hki : (k : Int) < 6 := by omega
   have c1 := rC HRO.out (i := 36 + k) (by omega)
   rw [tnF0, if_neg (by omega), if_pos (by omega), if_neg (by omega)] at c1;have f1 := rF HRO.out (36 + k)
   go_wp2_with fail
   go_region_held3 (fun W => (W.cell? ⟨b, 36 + k, none⟩).isSome = true ∧ W.frozen? ⟨b, 36 + k, none⟩ = false)
    (first | exact ⟨congrArg Option.isSome c1, f1⟩ | exact ⟨congrArg Option.isSome t1, t2⟩ | exact ⟨congrArg Option.isSome (World.cell?_setCell_same' _ _ _ (congrArg Option.isSome t1)), rF (World.rowIs.set hro6 (36 + k) _) _⟩)
    ((go_at_call 23; refine (NewMind_any k _ hk6).mono ?_; rintro e w6 ⟨rfl, hnn, hff⟩; have hro6 := hff.row (World.rowIs.drew HRO.out) (fun h => h); have t1 := cell_fr hff c1 (fun h => h); have t2 := rF hro6 (36 + k)))
   have hnn : NAt w6 wr.heap.size 119 (Nd.fresh k) := hnn
   have hrow : (w6.setCell ⟨b, 36 + k, none⟩ (.pointer (some ⟨wr.heap.size, 0, none⟩))).rowIs b 70 44 (tnF0 (fun j => if j = k then wr.heap.size else N j) (k + 1)) := by
    refine (World.rowIs.set hro6 (36 + k) _).congr (fun i hi => ?_)
    unfold tnF0;dsimp only
    by_cases e : i = 36 + k
    ·subst e;rw [if_pos rfl, if_neg (by omega), if_pos (by omega), if_pos (by omega), if_pos (by omega)]
    rw [if_neg e];by_cases h0 : i < 36
    ·rw [if_pos h0, if_pos h0]
    rw [if_neg h0, if_neg h0];by_cases h7 : i < 42
    ·rw [if_pos h7, if_pos h7];by_cases hk1 : i - 36 < k
     ·rw [if_pos hk1, if_pos (by omega), if_neg (by omega)]
     rw [if_neg hk1, if_neg (by omega)]
    rw [if_neg h7, if_neg h7]
   have hbz : b < wr.heap.size := World.rowIs.lt HRO.out
   have hfs : Fr (OneB b) w6 (w6.setCell ⟨b, 36 + k, none⟩ (.pointer (some ⟨wr.heap.size, 0, none⟩))) := (Fr.refl _ _).set1 _ _
   have hwz : w.heap.size ≤ wr.heap.size := HF.out.size
   have hn2 : ∀ j, j < k + 1 → NAt (w6.setCell ⟨b, 36 + k, none⟩ (.pointer (some ⟨wr.heap.size, 0, none⟩))) (if j = k then wr.heap.size else N j) 119 (Nd.fresh j) := by
    intro j hj;by_cases e : j = k
    ·rw [if_pos e, e]; exact hnn.keep hfs (fun h : wr.heap.size = b => by omega)
    rw [if_neg e];have h1 := HN.out j (by omega)
    exact (NAt.keep (w := wr.drew) (World.rowIs.drew h1) hff (fun h => h)).keep hfs (fun h : N j = b => rows_apart HRO.out h1 (by decide) h.symm)
   have hf2 : Fr NoB w (w6.setCell ⟨b, 36 + k, none⟩ (.pointer (some ⟨wr.heap.size, 0, none⟩))) := (HF.out.drew.trans hff).setNew HB.out _ _
   have hi2 : ∀ j l, j < k + 1 → l < k + 1 → (if j = k then wr.heap.size else N j) = (if l = k then wr.heap.size else N l) → j = l := by
    intro j l hj hl h;by_cases e : j = k
    ·by_cases e' : l = k
     ·omega
     rw [if_pos e, if_neg e'] at h;have := (HN.out l (by omega)).lt
     omega
    by_cases e' : l = k
    ·rw [if_neg e, if_pos e'] at h;have := (HN.out j (by omega)).lt
     omega
    rw [if_neg e, if_neg e'] at h;exact HI.out j l (by omega) (by omega) h
   clear hro6 t1 t2 hff hfs hnn c1 f1;have HR2 := zh hrow; clear hrow; have HN2 := zh hn2; clear hn2; have HF2 := zh hf2; clear hf2; have HI2 := zh hi2; clear hi2
   go_wp2;go_roundw
   case rel => exact ⟨k + 1, fun j => if j = k then wr.heap.size else N j, by omega, by go_num, HR2.out, HN2.out, fun j hj => by
    dsimp only;by_cases e : j = k
    ·rw [if_pos e]; exact hwz
    rw [if_neg e]; exact HNN.out j (by omega), HI2.out, HB.out, HF2.out⟩
   case measure => simp [intOf]; omega
  obtain rfl : k = 6 := by omega
  go_wp2;go_ret
  refine ⟨⟨b, N, .slice none 0 0⟩, .slice none 0 0, rfl, ⟨HRO.out.congr (fun i hi => ?_), HN.out, World.ownsRow_nil _ _ _ _, fun j k hj hk h => HI.out j k hj hk h⟩, HF.out, fun i hi => ?_, rfl⟩
  ·unfold tnF tnF0;by_cases h0 : i < 36
   ·rw [if_pos h0, if_pos h0]; rfl
   rw [if_neg h0, if_neg h0];by_cases h7 : i < 42
   ·rw [if_pos h7, if_pos h7, if_pos (by omega)]
   rw [if_neg h7, if_neg h7];split <;> rfl
  rcases hi with rfl | ⟨k, hk, rfl⟩ | hi
  ·exact HB.out
  ·exact HNN.out k hk
  cases hi
def TDoSaid (y : TIds) (u : Value) (t : Nt.NT) (k a b n pl pb : Int) (w : World) : Prop :=
 Calls Tryz.prog 59 #[.pointer (some ⟨y.b, 0, none⟩), step6 k a b n pl pb] w (TnDo y u (Nt.doT t k a b n).1 (Nt.doT t k a b n).2 w)
theorem TDo_tell (y : TIds) (u : Value) (t : Nt.NT) (a b n pl pb : Int) (m : Nat) (w : World) (hr : Nt.NOk t m) (h : TnAt w y u t) : TDoSaid y u t 3 a b n pl pb w := by
 have e : Nt.doT t 3 a b n = Nt.tellT t a b := rfl
 unfold TDoSaid step6
 rw [e]
 have H := zh h; clear h; have HR := zh hr; clear hr
 clear e
 go_enter Tryz.func59, Tryz.ntmps59
 go_wp2_with fail
 refine (Ttell_any y u t a b m _ HR.out (H.out.keep0 ((Fr.refl _ _).alloc _))).mono ?_
 rintro e w1 hd
 have hd := TnDo.after ((Fr.refl _ w).alloc _) hd
 obtain ⟨v', rfl, ha, hf, hg⟩ := hd
 have HA := zh ha; clear ha; have HF := zh hf; clear hf; have HG := zh hg; clear hg
 go_wp2
 go_ret
 exact ⟨v', rfl, HA.out, HF.out, HG.out⟩
theorem TDo_else (y : TIds) (u : Value) (t : Nt.NT) (k a b n pl pb : Int) (w : World) (h1 : k ≠ 1) (h2 : k ≠ 2) (h3 : k ≠ 3) (h4 : k ≠ 4) (h5 : k ≠ 5) (h6 : k ≠ 6) (h7 : k ≠ 7) (h : TnAt w y u t) : TDoSaid y u t k a b n pl pb w := by
 have e : Nt.doT t k a b n = (t, 8) := by rw [Nt.doT, if_neg h1, if_neg h2, if_neg h3, if_neg h4, if_neg h5, if_neg h6]
 unfold TDoSaid step6
 rw [e]
 clear e
 have g1 : (k == 1) = false := by simpa using h1
 have g2 : (k == 2) = false := by simpa using h2
 have g3 : (k == 3) = false := by simpa using h3
 have g4 : (k == 4) = false := by simpa using h4
 have g5 : (k == 5) = false := by simpa using h5
 have g6 : (k == 6) = false := by simpa using h6
 have g7 : (k == 7) = false := by simpa using h7
 clear h1 h2 h3 h4 h5 h6 h7
 have H := zh h; clear h
 go_enter Tryz.func59, Tryz.ntmps59
 go_wp2
 go_ret
 exact TnDo.none (H.out.keep0 ((Fr.refl _ _).alloc _)) ((Fr.refl _ _).alloc _)
theorem TDo_link (y : TIds) (u : Value) (t : Nt.NT) (a b c pl pb : Int) (m : Nat) (w : World) (hr : Nt.NOk t m) (h : TnAt w y u t) : TDoSaid y u t 1 a b c pl pb w := by
 have e : Nt.doT t 1 a b c = Nt.linkT t a b c := rfl
 unfold TDoSaid step6
 rw [e]
 clear e
 by_cases hb : Nt.setBad a b c
 ·have e : Nt.linkT t a b c = (t, 1) := by rw [Nt.linkT, if_pos hb]
  rw [e];clear e
  unfold Nt.setBad at hb;have H := zh h; clear h; have HR := zh hr; clear hr; have HB := zh hb; clear hb
  go_enter Tryz.func59, Tryz.ntmps59
  go_wp2_with fail;(refine still_tail 9 (by kernel_rfl) (by kernel_rfl) ?_; simp only [List.take_succ_cons, List.take_zero, List.drop_succ_cons, List.drop_zero]; (iterate 9 (refine wpStill_step (fun K hK => ?_); go_simp; (with_reducible refine hK _ ?_); clear hK K)); refine wpStill_nil ?_)
  go_wp2_with fail;refine (MSet_no y.b a b c _ HB.out).mono ?_
  rintro e w' ⟨rfl, rfl⟩
  go_wp2;go_ret
  exact TnDo.none (H.out.keep0 ((Fr.refl _ _).alloc _).drew) ((Fr.refl _ _).alloc _).drew
 have e : Nt.linkT t a b c = (Nt.linkOk t a.toNat b.toNat c, 0) := by rw [Nt.linkT, if_neg hb]
 rw [e]
 clear e
 have hb := Classical.not_not.1 hb
 obtain ⟨p0, p1, q0, q1, hne, r0, r1⟩ := hb
 obtain ⟨p, rfl⟩ := Int.eq_ofNat_of_zero_le p0
 obtain ⟨q, rfl⟩ := Int.eq_ofNat_of_zero_le q0
 rw [Int.toNat_natCast, Int.toNat_natCast]
 have hp : p < 6 := by omega
 have hq : q < 6 := by omega
 have hpq : q ≠ p := by omega
 clear hne p0 q0
 have H := zh h; clear h; have HR := zh hr; clear hr; have HPQ := zh hpq; clear hpq
 go_enter Tryz.func59, Tryz.ntmps59
 go_wp2_with fail
 refine wp_name fun w1 hw1 => ?_
 have hfa : Fr NoB w w1 := by rw [hw1]; exact (Fr.refl _ _).alloc _
 have b1 : w1.cell? ⟨w.heap.size, 1, none⟩ = some (.int .i64 p) := by rw [hw1]; simp
 have b2 : w1.cell? ⟨w.heap.size, 2, none⟩ = some (.int .i64 q) := by rw [hw1]; simp
 have b3 : w1.cell? ⟨w.heap.size, 3, none⟩ = some (.int .i64 c) := by rw [hw1]; simp
 have h1 := (H.out.keep0 hfa).drewN 1
 have hbn : ∀ i, FtT y u i → ¬ w.heap.size = i := fun i hi e => by have := H.out.lt hi; omega
 have hfa : Fr NoB w w1.drew := hfa.drew
 clear hw1 H
 generalize w.heap.size = pz at *
 have H := zh h1; clear h1; have HF := zh hfa; clear hfa; have HBN := zh hbn; clear hbn
 (refine still_tail 9 (by kernel_rfl) (by kernel_rfl) ?_; simp only [List.take_succ_cons, List.take_zero, List.drop_succ_cons, List.drop_zero]; (iterate 9 (refine wpStill_step (fun K hK => ?_); go_simp; (with_reducible refine hK _ ?_); clear hK K)); refine wpStill_nil ?_)
 have hbb1 : w1.drew.cell? ⟨pz, 1, none⟩ = some (.int .i64 p) := b1
 have hbb2 : w1.drew.cell? ⟨pz, 2, none⟩ = some (.int .i64 q) := b2
 have hbb3 : w1.drew.cell? ⟨pz, 3, none⟩ = some (.int .i64 c) := b3
 have hT : TnAt w1.drew y u t := H.out
 generalize w1.drew = w2 at *
 clear b1 b2 b3 H
 have H := zh hT; clear hT
 go_wp2_with fail
 refine (MSet_at y.b p q c (t.C p q) (t.C q p) _ hp hq (fun e => HPQ.out e.symm) r0 r1 (H.out.cM hp hq) (H.out.cM hq hp) (H.out.fz _) (H.out.fz _)).mono ?_
 rintro e w3 ⟨rfl, hw3⟩
 have h3 : TnAt w3 y u { t with C := setC t.C p q c } := by rw [hw3]; exact H.out.setM hp hq c
 have hf3 : Fr (OneB y.b) w2 w3 := by rw [hw3]; exact ((Fr.refl _ _).set1 _ _).set1 _ _
 have hne0 : ¬ pz = y.b := HBN.out y.b (.inl rfl)
 have s1 := cell_fr hf3 hbb1 hne0
 have s2 := cell_fr hf3 hbb2 hne0
 have s3 := cell_fr hf3 hbb3 hne0
 have hf3' : Fr (FtT y u) w w3 := (HF.out.mono (fun _ _ h => h.elim)).trans (hf3.mono (fun i _ h => .inl h))
 clear hw3 H HF hf3 hbb1 hbb2 hbb3 hne0
 have d1 := h3.cN hp
 have hpi : (p : Int) < 6 := by omega
 have hqi : (q : Int) < 6 := by omega
 have H := zh h3; clear h3; have HF := zh hf3'; clear hf3'
 go_wp2_with fail
 (refine still_tail 11 (by kernel_rfl) (by kernel_rfl) ?_; simp only [List.take_succ_cons, List.take_zero, List.drop_succ_cons, List.drop_zero]; (iterate 11 (refine wpStill_step (fun K hK => ?_); go_simp; (with_reducible refine hK _ ?_); clear hK K)); refine wpStill_nil ?_)
 go_wp2_with fail
 refine (MLink_any (y.N p) q c (t.N p) _ (HR.out.run p hp).ok (by exact H.out.node p hp)).mono ?_
 rintro e w4 ⟨rfl, hn, hf⟩
 have h4 := TnAt.setN (H.out.drewN 1) hp hn hf
 have hf4 : Fr (FtT y u) w w4 := HF.out.drew.trans (hf.mono (fun i _ h => .inr (.inl ⟨p, hp, h⟩)))
 have hq4 : NAt w4 (y.N q) 119 (t.N q) := by
  have h5 : NAt w4 (y.N q) 119 (Nt.upN t.N p (Nd.linkC (t.N p) q c).1 q) := h4.node q hq
  rw [Nt.upN_other _ _ _ _ HPQ.out] at h5;exact h5
 have hne1 : ¬ pz = y.N p := HBN.out _ (.inr (.inl ⟨p, hp, rfl⟩))
 have s1 := cell_fr hf s1 hne1
 have s2 := cell_fr hf s2 hne1
 have s3 := cell_fr hf s3 hne1
 clear d1 hn hf H HF hne1
 have d2 := h4.cN hq
 have H := zh h4; clear h4; have HF := zh hf4; clear hf4; have HQ := zh hq4; clear hq4
 go_wp2_with fail
 (refine still_tail 11 (by kernel_rfl) (by kernel_rfl) ?_; simp only [List.take_succ_cons, List.take_zero, List.drop_succ_cons, List.drop_zero]; (iterate 11 (refine wpStill_step (fun K hK => ?_); go_simp; (with_reducible refine hK _ ?_); clear hK K)); refine wpStill_nil ?_)
 go_wp2_with fail
 refine (MLink_any (y.N q) p c (t.N q) _ (HR.out.run q hq).ok (by exact HQ.out)).mono ?_
 rintro e w5 ⟨rfl, hn, hf⟩
 have h5 := TnAt.setN (H.out.drewN 1) hq hn hf
 have hf5 : Fr (FtT y u) w w5 := HF.out.drew.trans (hf.mono (fun i _ h => .inr (.inl ⟨q, hq, h⟩)))
 clear d2 hn hf H HF
 have H := zh h5; clear h5; have HF := zh hf5; clear hf5
 go_wp2
 go_ret
 exact TnDo.none H.out HF.out
def restL (C : Nat → Nat → Int) (a k : Nat) : List Nat := ((List.range 6).drop k).filter (fun b => decide (0 < C a b))
theorem restL_0 (C : Nat → Nat → Int) (a : Nat) : restL C a 0 = ofL C a 6 := rfl
theorem restL_6 (C : Nat → Nat → Int) (a : Nat) : restL C a 6 = [] := rfl
theorem range_drop {k : Nat} (h : k < 6) : (List.range 6).drop k = k :: (List.range 6).drop (k + 1) := by
 match k, h with
 | 0, _ => rfl
 | 1, _ => rfl
 | 2, _ => rfl
 | 3, _ => rfl
 | 4, _ => rfl
 | 5, _ => rfl
theorem restL_hit {C : Nat → Nat → Int} {a k : Nat} (h : k < 6) (hc : 0 < C a k) : restL C a k = k :: restL C a (k + 1) := by
 unfold restL; rw [range_drop h, List.filter_cons_of_pos (by simpa using hc)]
theorem restL_miss {C : Nat → Nat → Int} {a k : Nat} (h : k < 6) (hc : ¬ 0 < C a k) : restL C a k = restL C a (k + 1) := by
 unfold restL; rw [range_drop h, List.filter_cons_of_neg (by simpa using hc)]
theorem Nt.tellT_C (t : Nt.NT) (a b : Int) : (Nt.tellT t a b).1.C = t.C := by unfold Nt.tellT; split; rfl; split; rfl; split <;> rfl
def TTRel (y : TIds) (u0 : Value) (C : Nat → Nat → Int) (p pz : Nat) (r : Nt.NT × Int) (m : Nat) (w : World) (g : Nat) (i : Value) (wr : World) : Prop :=
 ∃ (k : Nat) (t : Nt.NT) (u : Value), k ≤ 6 ∧ g = 6 - k ∧ i = .int .i64 k ∧ Nt.NOk t m ∧ t.C = C ∧ Nt.tellsT t p (restL C p k) = r ∧ TnAt wr y u t ∧ Fr (FtT y u0) w wr ∧ (∀ g, u.ownBlock = some g → u0.ownBlock = some g ∨ w.heap.size ≤ g) ∧ wr.cell? ⟨pz, 1, none⟩ = some (.int .i64 p) ∧ (∀ i, FtT y u i → ¬ pz = i)
theorem TDo_tick (y : TIds) (u : Value) (t : Nt.NT) (a b n pl pb : Int) (m : Nat) (w : World) (hr : Nt.NOk t m) (hm : m ≤ 1000) (h : TnAt w y u t) : TDoSaid y u t 2 a b n pl pb w := by
 have e : Nt.doT t 2 a b n = Nt.tickT t a := rfl
 unfold TDoSaid step6
 rw [e]
 clear e
 by_cases ha : Nt.isN a
 ·obtain ⟨p, rfl⟩ := Int.eq_ofNat_of_zero_le ha.1
  have hp : p < 6 := by have := ha.2; omega
  have e : Nt.tickT t p = Nt.tellsT (Nt.tickOk t p) p (restL t.C p 0) := by rw [Nt.tickT, if_neg (fun h => h ha), Int.toNat_natCast, restL_0]
  have hok := hr.tickOk hp
  rw [e];clear e ha
  have hpi : (p : Int) < 6 := by omega
  have H := zh h; clear h; have HR := zh hr; clear hr; have HOK := zh hok; clear hok;go_enter Tryz.func59, Tryz.ntmps59
  go_wp2_with fail;refine (RNode_yes _ _ (by omega) (by omega)).mono ?_; rintro e w' ⟨rfl, rfl⟩
  go_wp2_with fail;refine wp_name fun w1 hw1 => ?_
  have hfa : Fr NoB w w1 := by rw [hw1]; exact (Fr.refl _ _).alloc _
  have b1 : w1.cell? ⟨w.heap.size, 1, none⟩ = some (.int .i64 p) := by rw [hw1]; simp
  have h1 := H.out.keep0 hfa
  have c1 := h1.cN hp
  have hbn : ∀ i, FtT y u i → ¬ w.heap.size = i := fun i hi e => by have := H.out.lt hi; omega
  clear hw1 H;generalize w.heap.size = pz at *
  have H := zh h1; clear h1; have HF := zh hfa; clear hfa; have HBN := zh hbn; clear hbn;(refine still_tail 7 (by kernel_rfl) (by kernel_rfl) ?_; simp only [List.take_succ_cons, List.take_zero, List.drop_succ_cons, List.drop_zero]; (iterate 7 (refine wpStill_step (fun K hK => ?_); go_simp; (with_reducible refine hK _ ?_); clear hK K)); refine wpStill_nil ?_)
  go_wp2_with fail;refine (MTick_any (y.N p) (t.N p) _ (HR.out.run p hp).ok.me (HR.out.run p hp).own (HR.out.run p hp).lo (by have := (HR.out.run p hp).hi; omega) (by exact H.out.node p hp)).mono ?_
  rintro e w2 ⟨rfl, hn, hf⟩
  have h2 : TnAt w2 y u (Nt.tickOk t p) := TnAt.setN (H.out.drewN 1) hp hn hf
  have hf2 : Fr (FtT y u) w w2 := (HF.out.drew.mono (fun _ _ h => h.elim)).trans (hf.mono (fun i _ h => .inr (.inl ⟨p, hp, h⟩)))
  have hz1 : w.heap.size ≤ w2.heap.size := hf2.size
  have b1 := cell_fr hf b1 (HBN.out _ (.inr (.inl ⟨p, hp, rfl⟩)))
  clear c1 hn hf H HF;have H := zh h2; clear h2; have HF := zh hf2; clear hf2; have HB1 := zh b1; clear b1
  go_wp2;go_loopg [6] 6 (fun g i wr => TTRel y u t.C p pz (Nt.tellsT (Nt.tickOk t p) p (restL t.C p 0)) (m + 1) w g i wr)
  case atStart => exact ⟨0, _, u, by omega, by omega, rfl, HOK.out, rfl, rfl, H.out, HF.out, fun g hg => .inl hg, HB1.out, HBN.out⟩
  case round =>
   clear H HF HOK HR HB1 HBN;obtain ⟨k, s, v, hk, hgk, rfl, hok, hC, hres, h1, hf, hg, b1, hbn⟩ := hrel
   have HGK := zh hgk; clear hgk;have HOK := zh hok; clear hok; have HC := zh hC; clear hC; have HRES := zh hres; clear hres; have H := zh h1; clear h1; have HF := zh hf; clear hf; have HG := zh hg; clear hg; have HBN := zh hbn; clear hbn
   by_cases hk6 : k < 6
   ·have hkb : decide ((k : Int) < 6) = true := by simp; omega
    have hki : (k : Int) < 6 := by omega
    have cM := H.out.cM hp hk6
    rw [HC.out] at cM;by_cases hc : 0 < t.C p k
    ·have hcb : decide (0 < t.C p k) = true := by simpa using hc
     have hr2 := HRES.out
     rw [restL_hit hk6 hc, Nt.tellsT] at hr2;clear hc HRES
     have HR2 := zh hr2; clear hr2;go_wp2_with fail
     go_quiet (fail)
     go_wp2_with fail;have h3 := H.out.drewN nq
     have b1 : (wr.drewN nq).cell? ⟨pz, 1, none⟩ = some (.int .i64 p) := b1
     have hf3 := HF.out.drewN nq
     clear H HF cM;generalize wr.drewN nq = w3 at *
     have H := zh h3; clear h3; have HF := zh hf3; clear hf3;refine (Ttell_any y v s p k (m + 1) _ HOK.out H.out).mono ?_
     rintro e w4 ⟨v', rfl, h2, hf, hg⟩
     have hok2 := HOK.out.tellT p k
     have hC2 : (Nt.tellT s p k).1.C = t.C := by rw [Nt.tellT_C]; exact HC.out
     have hf2 := HF.out.growT HG.out hf
     have hg2 := grow_trans HG.out hg HF.out.size
     have hpz := World.block_lt_of_cell? w3 _ b1
     have b1 := cell_fr hf b1 (fun e => HBN.out _ e rfl)
     have hbn2 : ∀ i, FtT y v' i → ¬ pz = i := fun i hi => by
      rcases hi with hi | hi | hi
      ·exact HBN.out i (.inl hi)
      ·exact HBN.out i (.inr (.inl hi))
      rcases hg i hi with h | h
      ·exact HBN.out i (.inr (.inr h))
      intro e; simp only at hpz; omega
     clear hf hg H HF HG HOK HC HBN hpz;by_cases hc : (Nt.tellT s p k).2 = 0
     ·have hr3 := HR2.out
      rw [if_pos hc] at hr3;rw [hc]
      clear hc HR2;have HOK := zh hok2; clear hok2; have HC := zh hC2; clear hC2; have HF := zh hf2; clear hf2; have HG := zh hg2; clear hg2; have H := zh h2; clear h2; have HR3 := zh hr3; clear hr3; have HBN := zh hbn2; clear hbn2
      go_wp2;go_roundg (6 - (k + 1))
      case rel => exact ⟨k + 1, _, v', by omega, rfl, by go_num, HOK.out, HC.out, HR3.out, H.out, HF.out, HG.out, b1, HBN.out⟩
      case measure => have := HGK.out; omega
     have hr3 := HR2.out
     rw [if_neg hc] at hr3;have hcb2 : ((Nt.tellT s p k).2 != 0) = true := by simp [hc]
     clear hc HR2;have HOK := zh hok2; clear hok2; have HC := zh hC2; clear hC2; have HF := zh hf2; clear hf2; have HG := zh hg2; clear hg2; have H := zh h2; clear h2; have HR3 := zh hr3; clear hr3; have HBN := zh hbn2; clear hbn2
     go_wp2;go_ret
     rw [← HR3.out];exact ⟨_, rfl, H.out, HF.out, HG.out⟩
    have hcb : decide (0 < t.C p k) = false := by simpa using hc
    have hr2 := HRES.out
    rw [restL_miss hk6 hc] at hr2;clear hc HRES
    have HR2 := zh hr2; clear hr2;go_wp2_with fail
    go_quiet (fail)
    go_wp2;go_roundg (6 - (k + 1))
    case rel => exact ⟨k + 1, s, v, by omega, rfl, by go_num, HOK.out, HC.out, HR2.out, H.out.drewN _, HF.out.drewN _, HG.out, b1, HBN.out⟩
    case measure => have := HGK.out; omega
   obtain rfl : k = 6 := by omega
   have hr2 := HRES.out
   rw [restL_6, Nt.tellsT] at hr2;clear HRES
   have HR2 := zh hr2; clear hr2;go_wp2
   go_ret
   rw [← HR2.out];exact ⟨_, rfl, H.out, HF.out, HG.out⟩
 have e : Nt.tickT t a = (t, 1) := by rw [Nt.tickT, if_pos ha]
 rw [e]
 clear e
 have H := zh h; clear h; have HR := zh hr; clear hr; have HA := zh ha; clear ha
 go_enter Tryz.func59, Tryz.ntmps59
 go_wp2_with fail
 refine (RNode_no _ _ HA.out).mono ?_; rintro e w' ⟨rfl, rfl⟩
 go_wp2
 go_ret
 exact TnDo.none (H.out.keep0 ((Fr.refl _ _).alloc _)) ((Fr.refl _ _).alloc _)
end Go.Proofs.YtffoilacaffdgaaGreatDoor
