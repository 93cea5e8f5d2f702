/- Walks over the reference's town: Do: lose, hear, double. -/
import Derived.Test.YtffoilacaffdgaaGreatDoorB4
import Derived.Test.YtffoilacaffdgaaGreatDoorB3
import Derived.Test.YtffoilacaffdgaaGreatDoorB1
set_option maxRecDepth 100000
set_option maxHeartbeats 8000000
namespace Go.Proofs.YtffoilacaffdgaaGreatDoor
open Go.RowKit Go.Deep
def CutY (w1 : World) (x1 x2 x3 x4 x5 : Int) (s : Value) (wx : World) : Prop := s = .pointer (some ⟨w1.heap.size, 0, none⟩) ∧ Fr NoB w1 wx ∧ wx.cell? ⟨w1.heap.size, 0, none⟩ = some (.int .i64 x1) ∧ wx.cell? ⟨w1.heap.size, 1, none⟩ = some (.int .i64 x2) ∧ wx.cell? ⟨w1.heap.size, 2, none⟩ = some (.int .i64 x3) ∧ wx.cell? ⟨w1.heap.size, 3, none⟩ = some (.int .i64 x4) ∧ wx.cell? ⟨w1.heap.size, 4, none⟩ = some (.int .i64 x5)
def CutDrop (y : TIds) (t : Nt.NT) (k : Nat) (w2 : World) (_s : Value) (wx : World) : Prop := ∃ u2 : Value, TnAt wx y u2 (Nt.lost t k) ∧ Fr (OneB y.b) w2 wx ∧ ∀ g, u2.ownBlock = some g → w2.heap.size ≤ g
theorem own_slice {w : World} {base : Nat} {e : TypeId} {size n : Nat} {v : Value} {xs : List Value} (h : w.ownsRow base e size v n xs) : ∃ a cap, v = .slice a n cap := by
 rcases h.2 with ⟨rfl, rfl⟩ | ⟨g, cap, _, rfl, _⟩
 ·exact ⟨none, 0, rfl⟩
 exact ⟨_, cap, rfl⟩
theorem nw_one (l : List Int) : ∀ u ∈ l.map (Value.int .i64), u.oneCell' = true := by
 intro u hu
 obtain ⟨y, _, rfl⟩ := List.mem_map.1 hu
 rfl
theorem TDo_lose (y : TIds) (u : Value) (t : Nt.NT) (a b n pl pb : Int) (m : Nat) (w : World) (hr : Nt.NOk t m) (h : TnAt w y u t) : TDoSaid y u t 5 a b n pl pb w := by
 have e : Nt.doT t 5 a b n = Nt.loseT t n := rfl
 unfold TDoSaid step6
 rw [e]
 clear e
 have hf1 : ∀ o, Fr NoB w (w.alloc o) := fun o => (Fr.refl _ _).alloc _
 have hb := h.lt (.inl rfl)
 have c42 := h.c42
 obtain ⟨av, cv, rfl, j1, j2, j3, hncv, hcvm, j4⟩ := ownsRow_rd h.news
 clear j1 j2 j3 j4
 by_cases ho : Nt.out t n
 ·have e : Nt.loseT t n = (t, 6) := by rw [Nt.loseT, if_pos ho]
  rw [e];clear e hncv hcvm
  unfold Nt.out at ho;by_cases h0 : n < 0
  ·have hb0 : decide (n < 0) = true := by simpa using h0
   clear ho h0;have H := zh h; clear h; have HR := zh hr; clear hr; have HF1 := zh hf1; clear hf1
   go_enter Tryz.func59, Tryz.ntmps59
   go_wp2_with fail;go_quiet (fail)
   go_wp2;go_ret
   exact TnDo.none ((H.out.keep0 (HF1.out _)).drewN _) (((HF1.out _).mono (fun _ _ h => h.elim)).drewN _)
  have hb0 : decide (n < 0) = false := by simpa using h0
  have hb1 : decide ((t.news.length : Int) ≤ n) = true := by simp; omega
  clear ho h0;have H := zh h; clear h; have HR := zh hr; clear hr; have HF1 := zh hf1; clear hf1
  go_enter Tryz.func59, Tryz.ntmps59
  go_wp2_with fail;go_quiet (fail)
  go_wp2;go_ret
  exact TnDo.none ((H.out.keep0 (HF1.out _)).drewN _) (((HF1.out _).mono (fun _ _ h => h.elim)).drewN _)
 have hk := Nt.out_no ho
 obtain ⟨k, rfl⟩ := Int.eq_ofNat_of_zero_le (a := n) (by unfold Nt.out at ho; omega)
 rw [Int.toNat_natCast] at hk
 have hb0 : decide ((k : Int) < 0) = false := by simp
 have hb1 : decide ((t.news.length : Int) ≤ k) = false := by simp; omega
 have e : Nt.loseT t k = (Nt.lost t k, 0) := by rw [Nt.loseT, if_neg ho, Int.toNat_natCast]
 rw [e]
 clear e ho
 obtain ⟨g, rfl, d0, d1, d2, d3, d4⟩ := news_cells h.news hk
 have hki : (k : Int) < (t.news.length : Int) := by omega
 have hnw : nwGet t.news k = Nt.nwAt t k := rfl
 rw [hnw] at d0 d1 d2 d3 d4
 have hob : (Value.slice (some ⟨g, 0, none⟩) t.news.length cv).ownBlock = some g := rfl
 have hgl := h.lt (.inr (.inr hob))
 have hl40 := hr.len
 have hgn := hr.g _ (Nt.nwAt_mem hk)
 clear hnw hob
 have H := zh h; clear h; have HR := zh hr; clear hr; have HF1 := zh hf1; clear hf1; have HL := zh hl40; clear hl40; have HNC := zh hncv; clear hncv; have HCM := zh hcvm; clear hcvm; have HGN := zh hgn; clear hgn
 go_enter Tryz.func59, Tryz.ntmps59
 go_wp2_with fail
 go_quiet (fail)
 go_wp2_with fail
 refine wp_name fun w1 hw1 => ?_
 have hfa : Fr NoB w w1 := by rw [hw1]; exact (HF1.out _).drewN _
 have e0 : w1.cell? ⟨w.heap.size, 0, none⟩ = some (.int .i64 5) := by rw [hw1]; simp
 have e3 : w1.cell? ⟨w.heap.size, 3, none⟩ = some (.int .i64 k) := by rw [hw1]; simp
 have hpzl := World.block_lt_of_cell? w1 _ e0
 have h1 := H.out.keep0 hfa
 have c42 := cell_fr hfa c42 (fun h => h)
 have d0 := cell_fr hfa d0 (fun h => h)
 have d1 := cell_fr hfa d1 (fun h => h)
 have d2 := cell_fr hfa d2 (fun h => h)
 have d3 := cell_fr hfa d3 (fun h => h)
 have d4 := cell_fr hfa d4 (fun h => h)
 have hpb : w.heap.size ≠ y.b := by omega
 have hpn : ∀ i, FtT y (.slice (some ⟨g, 0, none⟩) t.news.length cv) i → ¬ w.heap.size = i := fun i hi e => by have := H.out.lt hi; omega
 clear hw1 hgl hb H HF1
 generalize hpz : w.heap.size = pz at *
 have HPZ := zh hpz; clear hpz
 have H := zh h1; clear h1; have HF := zh hfa; clear hfa; have HPB := zh hpb; clear hpb; have HPN := zh hpn; clear hpn
 generalize Nt.nwAt t k = x at *
 obtain ⟨x1, x2, x3, x4, x5⟩ := x
 dsimp only at d0 d1 d2 d3 d4 hpzl
 have hybl : y.b < w1.heap.size := H.out.lt (.inl rfl)
 have hgl1 : g < w1.heap.size := World.block_lt_of_cell? w1 _ d0
 go_cut [8] (fun s wx => CutY w1 x1 x2 x3 x4 x5 s wx)
 case first =>
  go_region
  all_goals (go_wp2_with fail; go_meet; exact ⟨rfl, ((Fr.refl _ _).drew).alloc _, by simp, by simp, by simp, by simp, by simp⟩)
 case rest =>
  obtain ⟨rfl, hfa, y0, y1, y2, y3, y4⟩ := hcut
  obtain ⟨w2, rfl⟩ : ∃ w2 : World, w2 = wc := ⟨_, rfl⟩
  have h2 := H.out.keep0 hfa
  have hf2 := HF.out.trans hfa
  have c42 := cell_fr hfa c42 (fun h => h)
  have e0 := cell_fr hfa e0 (fun h => h)
  have e3 := cell_fr hfa e3 (fun h => h)
  have f42 := h2.fz 42
  have hp8 : ∀ i, FtT y (.slice (some ⟨g, 0, none⟩) t.news.length cv) i → ¬ w1.heap.size = i := fun i hi e => by have := H.out.lt hi; omega
  clear hfa H HF d0 d1 d2 d3 d4 hpzl hybl hgl1;generalize w1.heap.size = p8 at *
  have H := zh h2; clear h2; have HF := zh hf2; clear hf2; have HP8 := zh hp8; clear hp8;go_wp2_with fail
  -- the source's two parts
  obtain ⟨A, hA, hAd⟩ : ∃ A : Addr, (if cv = k + 1 then some (⟨g, 0, none⟩ : Addr) else some ⟨g, (k + 1) * 5, none⟩) = some A ∧ Hid ((t.news.length = k + 1 ∨ A = ⟨g, (k + 1) * 5, none⟩)) := by
   by_cases hc : cv = k + 1
   ·exact ⟨⟨g, 0, none⟩, by simp [hc], .inl (by have := HNC.out; omega)⟩
   exact ⟨⟨g, (k + 1) * 5, none⟩, by simp [hc], .inr rfl⟩
  have key1 : ∀ (j : Nat) (v : Value), ((nwI (t.news.take k)).map (Value.int .i64))[j]? = some v → w2.cell? ((⟨g, 0, none⟩ : Addr).add j) = some v := by
   intro j v hv;refine news_rd H.out.news j v g rfl ?_
   have hj : j < (nwI (t.news.take k)).length := by have := (List.getElem?_eq_some_iff.1 hv).1; simpa using this
   rw [nwI_len, List.length_take] at hj;rw [← nwI_take, List.map_take, List.getElem?_take, if_pos (by omega)] at hv
   exact hv
  have key2 : ∀ (W : World), Fr NoB w2 W → ∀ (j : Nat) (v : Value), ((nwI (t.news.drop (k + 1))).map (Value.int .i64))[j]? = some v → W.cell? (A.add j) = some v := by
   intro W hW j v hv;have hj : j < (nwI (t.news.drop (k + 1))).length := by have := (List.getElem?_eq_some_iff.1 hv).1; simpa using this
   rw [nwI_len, List.length_drop] at hj;rcases hAd.out with hA1 | hA1
   ·omega
   rw [← nwI_drop, List.map_drop, List.getElem?_drop] at hv;have h5 := news_rd H.out.news ((k + 1) * 5 + j) v g rfl hv
   rw [add_base] at h5;rw [hA1, show (⟨g, (k + 1) * 5, none⟩ : Addr).add j = ⟨g, (k + 1) * 5 + j, none⟩ from by unfold Addr.add; split <;> simp_all]
   exact cell_fr hW h5 (fun h => h)
  have key3 : ∀ (v2 : Value) (w4 : World), Fr NoB w2 w4 → w4.ownsRow w2.heap.size 98 5 v2 (0 + k + (t.news.length - (k + 1))) (([] ++ (nwI (t.news.take k)).map (Value.int .i64)) ++ (nwI (t.news.drop (k + 1))).map (Value.int .i64)) →
   w4.cell? ⟨y.b, 42, none⟩ = some (.slice (some ⟨g, 0, none⟩) t.news.length cv) ∧ w4.frozen? ⟨y.b, 42, none⟩ = false ∧ w4.cell? ⟨pz, 3, none⟩ = some (.int .i64 k) ∧
   Hid (w4.rowIs y.b 70 44 (tnF y (.slice (some ⟨g, 0, none⟩) t.news.length cv) t.C)) ∧
   Hid (TnAt (w4.setCell ⟨y.b, 42, none⟩ v2) y v2 (Nt.lost t k) ∧ Fr (OneB y.b) w2 (w4.setCell ⟨y.b, 42, none⟩ v2) ∧ ∀ g, v2.ownBlock = some g → w2.heap.size ≤ g) := by
   intro v2 w4 hW h2;have hlen : (t.news.take k ++ t.news.drop (k + 1)).length = 0 + k + (t.news.length - (k + 1)) := by rw [List.length_append, List.length_take, List.length_drop]; omega
   have h4 := H.out.keep0 hW
   have hv : SlN w4 w2.heap.size v2 (t.news.take k ++ t.news.drop (k + 1)).length (nwI (t.news.take k ++ t.news.drop (k + 1))) := by
    rw [hlen, nwI_app];unfold SlN
    rw [List.map_append];simpa using h2
   have hv0 : SlN w4 0 v2 (t.news.take k ++ t.news.drop (k + 1)).length (nwI (t.news.take k ++ t.news.drop (k + 1))) := by
    refine ⟨hv.1, ?_⟩
    rcases hv.2 with hn | ⟨g', cap, cur, q1, q2, q3⟩
    ·exact .inl hn
    exact .inr ⟨g', cap, cur, q1, Nat.zero_le _, q3⟩
   refine ⟨cell_fr hW c42 (fun h => h), h4.fz 42, cell_fr hW e3 (fun h => h), h4.row, h4.setV hv0 (Fr.refl _ _), (hW.mono (fun _ _ h => h.elim)).set1 _ _, fun g' hg' => (oL hv g' hg').1⟩
  have hw2z : w2.drew.heap.size = w2.heap.size := rfl
  have hsl : t.news.length - (k + 1) + (k + 1) = t.news.length := by omega
  have hl1 : ((nwI (t.news.take k)).map (Value.int .i64)).length = k * 5 := by rw [List.length_map, nwI_len, List.length_take]; omega
  have hl2 : ((nwI (t.news.drop (k + 1))).map (Value.int .i64)).length = (t.news.length - (k + 1)) * 5 := by rw [List.length_map, nwI_len, List.length_drop]
  have hkcv : k ≤ cv := by have := HNC.out; omega
  have hkcv1 : k + 1 ≤ cv := by have := HNC.out; omega
  have hsum := IntWalk.i64_in ((k : Int) + 1) (by have := HL.out; omega)
  have hj1 : (k : Int) + 1 ≤ (t.news.length : Int) := by omega
  have hj0 : (0 : Int) ≤ (k : Int) + 1 := by omega
  have hkle : (k : Int) ≤ (cv : Int) := by omega
  have hko : 0 + k + (t.news.length - (k + 1)) ≤ 2147483648 := by have := HL.out; omega
  have hko1 : 0 + k ≤ 2147483648 := by have := HL.out; omega
  have KEY1 := zh key1; clear key1; have KEY2 := zh key2; clear key2; have KEY3 := zh key3; clear key3; have HL1 := zh hl1; clear hl1; have HL2 := zh hl2; clear hl2; have HKO := zh hko; clear hko; have HKO1 := zh hko1; clear hko1;clear hsl
  go_cut [144] (fun s wx => CutDrop y t k w2 s wx)
  case first =>
   (refine wp_region_held_drew (S := (fun W => (W.cell? ⟨y.b, 42, none⟩).isSome = true ∧ W.frozen? ⟨y.b, 42, none⟩ = false ∧ W.cell? ⟨pz, 3, none⟩ = some (.int .i64 k))) (by kernel_rfl) ⟨congrArg Option.isSome c42, f42, e3⟩ (fun hHeld => ?_))
   (refine tk (v := ?_) 0 (by simp only [gx]; rfl) hHeld (.inl ⟨by rfl, ?_⟩) ?_; rotate_left; (focus (intro w k; (try dsimp only at k); go_simp; all_goals with_reducible rfl)); (try simp only [Act.put, px])); (refine tk (v := ?_) 1 (by simp only [gx]; rfl) hHeld (.inl ⟨by rfl, ?_⟩) ?_; rotate_left; (focus (intro w k; (try dsimp only at k); go_simp; all_goals with_reducible rfl)); (try simp only [Act.put, px])); (refine tk (v := ?_) 2 (by simp only [gx]; rfl) hHeld (.inl ⟨by rfl, ?_⟩) ?_; rotate_left; (focus (intro w k; (try dsimp only at k); go_simp; all_goals with_reducible rfl)); (try simp only [Act.put, px])); (refine tk (v := ?_) 3 (by simp only [gx]; rfl) hHeld (.inl ⟨by rfl, ?_⟩) ?_; rotate_left; (focus (intro w k; (try dsimp only at k); go_simp; all_goals with_reducible rfl)); (try simp only [Act.put, px])); (refine tk (v := ?_) 4 (by simp only [gx]; rfl) hHeld (.inl ⟨by rfl, ?_⟩) ?_; rotate_left; (focus (intro w k; (try dsimp only at k); go_simp; all_goals with_reducible rfl)); (try simp only [Act.put, px])); (refine tk (v := ?_) 6 (by simp only [gx]; rfl) hHeld (.inl ⟨by rfl, ?_⟩) ?_; rotate_left; (focus (intro w k; (try dsimp only at k); go_simp; all_goals with_reducible rfl)); (try simp only [Act.put, px])); (refine tk (v := ?_) 7 (by simp only [gx]; rfl) hHeld (.inl ⟨by rfl, ?_⟩) ?_; rotate_left; (focus (intro w k; (try dsimp only at k); go_simp; all_goals with_reducible rfl)); (try simp only [Act.put, px])); (refine tk (v := ?_) 10 (by simp only [gx]; rfl) hHeld (.inl ⟨by rfl, ?_⟩) ?_; rotate_left; (focus (intro w k; (try dsimp only at k); go_simp; all_goals with_reducible rfl)); (try simp only [Act.put, px])); (refine tk (v := ?_) 11 (by simp only [gx]; rfl) hHeld (.inl ⟨by rfl, ?_⟩) ?_; rotate_left; (focus (intro w k; (try dsimp only at k); go_simp; all_goals with_reducible rfl)); (try simp only [Act.put, px])); (refine tk (v := ?_) 12 (by simp only [gx]; rfl) hHeld (.inl ⟨by rfl, ?_⟩) ?_; rotate_left; (focus (intro w k; (try dsimp only at k); go_simp; all_goals with_reducible rfl)); (try simp only [Act.put, px])); (refine tk (v := ?_) 14 (by simp only [gx]; rfl) hHeld (.inl ⟨by rfl, ?_⟩) ?_; rotate_left; (focus (intro w k; (try dsimp only at k); go_simp; all_goals with_reducible rfl)); (try simp only [Act.put, px])); (refine tk (v := ?_) 15 (by simp only [gx]; rfl) hHeld (.inl ⟨by rfl, ?_⟩) ?_; rotate_left; (focus (intro w k; (try dsimp only at k); go_simp; all_goals with_reducible rfl)); (try simp only [Act.put, px])); (refine tk (v := ?_) 16 (by simp only [gx]; rfl) hHeld (.inl ⟨by rfl, ?_⟩) ?_; rotate_left; (focus (intro w k; (try dsimp only at k); go_simp; all_goals with_reducible rfl)); (try simp only [Act.put, px]))
   refine wpAnyH_ready (rs := [5, 13]) (by kernel_rfl) (by simp) ?_
   refine AllReadyH.cons (by simp only [gx]; rfl) (fun K hK => ?_) (AllReadyH.cons (by simp only [gx]; rfl) (fun K hK => ?_) AllReadyH.nil)
   ·go_simp
    refine hK.out _ _ ⟨congrArg Option.isSome c42, f42, e3⟩ (fun hHeld => ?_)
    clear hK K;(try simp only [Act.put, px])
    (refine tk (v := ?_) 8 (by simp only [gx]; rfl) hHeld (.inl ⟨by rfl, ?_⟩) ?_; rotate_left; (focus (intro w k; (try dsimp only at k); go_simp; all_goals with_reducible rfl)); (try simp only [Act.put, px]))
    refine wpAnyH_ready (rs := [9, 13]) (by kernel_rfl) (by simp) ?_
    refine AllReadyH.cons (by simp only [gx]; rfl) (fun K hK => ?_) (AllReadyH.cons (by simp only [gx]; rfl) (fun K hK => ?_) AllReadyH.nil)
    ·refine step_own (by rfl) (.tmp 145) (.tmp 152) 67 98 5 40 (.agg #[.int .i64 0, .int .i64 0, .int .i64 0, .int .i64 0, .int .i64 0]) (by rfl) Tryz.underlying67 Tryz.info98 rfl (by omega) w2.heap.size (.slice none 0 0) 0 [] (by rfl) (World.ownsRow_nil _ _ _ _) ⟨g, 0, none⟩ k cv ((nwI (t.news.take k)).map (Value.int .i64)) (by rfl) HL1.out (by exact KEY1.out) (nw_one _) HKO1.out (by omega) (Nat.le_refl _) ?_; intro v1 w3 hv1 hfr; have hfr1 : Fr NoB w2 w3 := (Fr.refl _ w2).drew.trans (hfr.mono (fun i _ h => by cases h)); have s42 := cell_fr hfr1 c42 (fun h => h); have sf42 : w3.frozen? ⟨y.b, 42, none⟩ = false := (H.out.keep0 hfr1).fz 42; have s3 := cell_fr hfr1 e3 (fun h => h); have HFR1 := zh hfr1; clear hfr1 hfr; have HV1 := zh hv1; clear hv1
     refine hK.out _ _ ⟨congrArg Option.isSome s42, sf42, s3⟩ (fun hHeld => ?_)
     clear hK K;(try simp only [Act.put, px])
     refine wpAnyH_ready (rs := [13]) (by kernel_rfl) (by simp) ?_
     refine AllReadyH.cons (by simp only [gx]; rfl) (fun K hK => ?_) AllReadyH.nil
     go_simp
     refine hK.out _ _ ⟨congrArg Option.isSome s42, sf42, s3⟩ (fun hHeld => ?_)
     clear hK K;(try simp only [Act.put, px])
     (refine tk (v := ?_) 17 (by simp only [gx]; rfl) hHeld (.inl ⟨by rfl, ?_⟩) ?_; rotate_left; (focus (intro w k; (try dsimp only at k); go_simp; all_goals with_reducible rfl)); (try simp only [Act.put, px]))
     refine wpAnyH_ready (rs := [18]) (by kernel_rfl) (by simp) ?_
     refine AllReadyH.cons (by simp only [gx]; rfl) (fun K hK => ?_) AllReadyH.nil
     refine step_own (by rfl) (.tmp 153) (.tmp 161) 67 98 5 40 (.agg #[.int .i64 0, .int .i64 0, .int .i64 0, .int .i64 0, .int .i64 0]) (by rfl) Tryz.underlying67 Tryz.info98 rfl (by omega) w2.heap.size v1 (0 + k) _ (by rfl) HV1.out A (t.news.length - (k + 1)) (cv - (k + 1)) ((nwI (t.news.drop (k + 1))).map (Value.int .i64)) (by rfl) HL2.out (fun j u hu => KEY2.out _ HFR1.out j u hu) (nw_one _) HKO.out (by omega) HFR1.out.size ?_; intro v2 w4 hv2 hfr; obtain ⟨a2, cap2, rfl⟩ := own_slice hv2; have hfr2 : Fr NoB w2 w4 := HFR1.out.ownB HV1.out (Nat.le_refl _) hfr; obtain ⟨r42, rf42, r3, HROW, HFIN⟩ := KEY3.out _ w4 hfr2 hv2; clear hfr hfr2 hv2
     refine hK.out _ _ ⟨congrArg Option.isSome r42, rf42, r3⟩ (fun hHeld => ?_)
     clear hK K;(try simp only [Act.put, px])
     (refine tk (v := ?_) 19 (by simp only [gx]; rfl) hHeld (.inl ⟨by rfl, ?_⟩) ?_; rotate_left; (focus (intro w k; (try dsimp only at k); go_simp; all_goals with_reducible rfl)); (try simp only [Act.put, px])); (refine tk (v := ?_) 20 (by simp only [gx]; rfl) hHeld (.inl ⟨by rfl, ?_⟩) ?_; rotate_left; (focus (intro w k; (try dsimp only at k); go_simp; all_goals with_reducible rfl)); (try simp only [Act.put, px]))
     refine wpAnyH_ready (rs := [21]) (by kernel_rfl) (by simp) ?_
     refine AllReadyH.cons (by simp only [gx]; rfl) (fun K hK => ?_) AllReadyH.nil
     go_simp
     refine hK.out _ _ ⟨congrArg Option.isSome (World.cell?_setCell_same' _ _ _ (congrArg Option.isSome r42)), rF (World.rowIs.set HROW.out 42 _) _, (World.cell?_setCell_far _ _ _ _ (fun e => HPB.out e.symm)).trans r3⟩ (fun hHeld => ?_)
     clear hK K;(try simp only [Act.put, px])
     (refine wpAnyH_done (by kernel_rfl) ?_ _)
     have hfin := HFIN.out
     rw [Nat.zero_add] at hfin;have HFI := zh hfin
     clear hfin HFIN r42 rf42 r3 HROW;go_wp2_with fail
     go_meet;exact ⟨_, HFI.out⟩
    go_simp
    refine hK.out _ _ ⟨congrArg Option.isSome c42, f42, e3⟩ (fun hHeld => ?_)
    clear hK K;(try simp only [Act.put, px])
    (refine tk (v := ?_) 17 (by simp only [gx]; rfl) hHeld (.inl ⟨by rfl, ?_⟩) ?_; rotate_left; (focus (intro w k; (try dsimp only at k); go_simp; all_goals with_reducible rfl)); (try simp only [Act.put, px]))
    refine wpAnyH_ready (rs := [9]) (by kernel_rfl) (by simp) ?_
    refine AllReadyH.cons (by simp only [gx]; rfl) (fun K hK => ?_) AllReadyH.nil
    refine step_own (by rfl) (.tmp 145) (.tmp 152) 67 98 5 40 (.agg #[.int .i64 0, .int .i64 0, .int .i64 0, .int .i64 0, .int .i64 0]) (by rfl) Tryz.underlying67 Tryz.info98 rfl (by omega) w2.heap.size (.slice none 0 0) 0 [] (by rfl) (World.ownsRow_nil _ _ _ _) ⟨g, 0, none⟩ k cv ((nwI (t.news.take k)).map (Value.int .i64)) (by rfl) HL1.out (by exact KEY1.out) (nw_one _) HKO1.out (by omega) (Nat.le_refl _) ?_; intro v1 w3 hv1 hfr; have hfr1 : Fr NoB w2 w3 := (Fr.refl _ w2).drew.trans (hfr.mono (fun i _ h => by cases h)); have s42 := cell_fr hfr1 c42 (fun h => h); have sf42 : w3.frozen? ⟨y.b, 42, none⟩ = false := (H.out.keep0 hfr1).fz 42; have s3 := cell_fr hfr1 e3 (fun h => h); have HFR1 := zh hfr1; clear hfr1 hfr; have HV1 := zh hv1; clear hv1
    refine hK.out _ _ ⟨congrArg Option.isSome s42, sf42, s3⟩ (fun hHeld => ?_)
    clear hK K;(try simp only [Act.put, px])
    refine wpAnyH_ready (rs := [18]) (by kernel_rfl) (by simp) ?_
    refine AllReadyH.cons (by simp only [gx]; rfl) (fun K hK => ?_) AllReadyH.nil
    refine step_own (by rfl) (.tmp 153) (.tmp 161) 67 98 5 40 (.agg #[.int .i64 0, .int .i64 0, .int .i64 0, .int .i64 0, .int .i64 0]) (by rfl) Tryz.underlying67 Tryz.info98 rfl (by omega) w2.heap.size v1 (0 + k) _ (by rfl) HV1.out A (t.news.length - (k + 1)) (cv - (k + 1)) ((nwI (t.news.drop (k + 1))).map (Value.int .i64)) (by rfl) HL2.out (fun j u hu => KEY2.out _ HFR1.out j u hu) (nw_one _) HKO.out (by omega) HFR1.out.size ?_; intro v2 w4 hv2 hfr; obtain ⟨a2, cap2, rfl⟩ := own_slice hv2; have hfr2 : Fr NoB w2 w4 := HFR1.out.ownB HV1.out (Nat.le_refl _) hfr; obtain ⟨r42, rf42, r3, HROW, HFIN⟩ := KEY3.out _ w4 hfr2 hv2; clear hfr hfr2 hv2
    refine hK.out _ _ ⟨congrArg Option.isSome r42, rf42, r3⟩ (fun hHeld => ?_)
    clear hK K;(try simp only [Act.put, px])
    (refine tk (v := ?_) 19 (by simp only [gx]; rfl) hHeld (.inl ⟨by rfl, ?_⟩) ?_; rotate_left; (focus (intro w k; (try dsimp only at k); go_simp; all_goals with_reducible rfl)); (try simp only [Act.put, px])); (refine tk (v := ?_) 20 (by simp only [gx]; rfl) hHeld (.inl ⟨by rfl, ?_⟩) ?_; rotate_left; (focus (intro w k; (try dsimp only at k); go_simp; all_goals with_reducible rfl)); (try simp only [Act.put, px]))
    refine wpAnyH_ready (rs := [21]) (by kernel_rfl) (by simp) ?_
    refine AllReadyH.cons (by simp only [gx]; rfl) (fun K hK => ?_) AllReadyH.nil
    go_simp
    refine hK.out _ _ ⟨congrArg Option.isSome (World.cell?_setCell_same' _ _ _ (congrArg Option.isSome r42)), rF (World.rowIs.set HROW.out 42 _) _, (World.cell?_setCell_far _ _ _ _ (fun e => HPB.out e.symm)).trans r3⟩ (fun hHeld => ?_)
    clear hK K;(try simp only [Act.put, px])
    (refine wpAnyH_done (by kernel_rfl) ?_ _)
    have hfin := HFIN.out
    rw [Nat.zero_add] at hfin;have HFI := zh hfin
    clear hfin HFIN r42 rf42 r3 HROW;go_wp2_with fail
    go_meet;exact ⟨_, HFI.out⟩
   go_simp
   refine hK.out _ _ ⟨congrArg Option.isSome c42, f42, e3⟩ (fun hHeld => ?_)
   clear hK K;(try simp only [Act.put, px])
   (refine tk (v := ?_) 17 (by simp only [gx]; rfl) hHeld (.inl ⟨by rfl, ?_⟩) ?_; rotate_left; (focus (intro w k; (try dsimp only at k); go_simp; all_goals with_reducible rfl)); (try simp only [Act.put, px]))
   refine wpAnyH_ready (rs := [5]) (by kernel_rfl) (by simp) ?_
   refine AllReadyH.cons (by simp only [gx]; rfl) (fun K hK => ?_) AllReadyH.nil
   go_simp
   refine hK.out _ _ ⟨congrArg Option.isSome c42, f42, e3⟩ (fun hHeld => ?_)
   clear hK K;(try simp only [Act.put, px])
   (refine tk (v := ?_) 8 (by simp only [gx]; rfl) hHeld (.inl ⟨by rfl, ?_⟩) ?_; rotate_left; (focus (intro w k; (try dsimp only at k); go_simp; all_goals with_reducible rfl)); (try simp only [Act.put, px]))
   refine wpAnyH_ready (rs := [9]) (by kernel_rfl) (by simp) ?_
   refine AllReadyH.cons (by simp only [gx]; rfl) (fun K hK => ?_) AllReadyH.nil
   refine step_own (by rfl) (.tmp 145) (.tmp 152) 67 98 5 40 (.agg #[.int .i64 0, .int .i64 0, .int .i64 0, .int .i64 0, .int .i64 0]) (by rfl) Tryz.underlying67 Tryz.info98 rfl (by omega) w2.heap.size (.slice none 0 0) 0 [] (by rfl) (World.ownsRow_nil _ _ _ _) ⟨g, 0, none⟩ k cv ((nwI (t.news.take k)).map (Value.int .i64)) (by rfl) HL1.out (by exact KEY1.out) (nw_one _) HKO1.out (by omega) (Nat.le_refl _) ?_; intro v1 w3 hv1 hfr; have hfr1 : Fr NoB w2 w3 := (Fr.refl _ w2).drew.trans (hfr.mono (fun i _ h => by cases h)); have s42 := cell_fr hfr1 c42 (fun h => h); have sf42 : w3.frozen? ⟨y.b, 42, none⟩ = false := (H.out.keep0 hfr1).fz 42; have s3 := cell_fr hfr1 e3 (fun h => h); have HFR1 := zh hfr1; clear hfr1 hfr; have HV1 := zh hv1; clear hv1
   refine hK.out _ _ ⟨congrArg Option.isSome s42, sf42, s3⟩ (fun hHeld => ?_)
   clear hK K;(try simp only [Act.put, px])
   refine wpAnyH_ready (rs := [18]) (by kernel_rfl) (by simp) ?_
   refine AllReadyH.cons (by simp only [gx]; rfl) (fun K hK => ?_) AllReadyH.nil
   refine step_own (by rfl) (.tmp 153) (.tmp 161) 67 98 5 40 (.agg #[.int .i64 0, .int .i64 0, .int .i64 0, .int .i64 0, .int .i64 0]) (by rfl) Tryz.underlying67 Tryz.info98 rfl (by omega) w2.heap.size v1 (0 + k) _ (by rfl) HV1.out A (t.news.length - (k + 1)) (cv - (k + 1)) ((nwI (t.news.drop (k + 1))).map (Value.int .i64)) (by rfl) HL2.out (fun j u hu => KEY2.out _ HFR1.out j u hu) (nw_one _) HKO.out (by omega) HFR1.out.size ?_; intro v2 w4 hv2 hfr; obtain ⟨a2, cap2, rfl⟩ := own_slice hv2; have hfr2 : Fr NoB w2 w4 := HFR1.out.ownB HV1.out (Nat.le_refl _) hfr; obtain ⟨r42, rf42, r3, HROW, HFIN⟩ := KEY3.out _ w4 hfr2 hv2; clear hfr hfr2 hv2
   refine hK.out _ _ ⟨congrArg Option.isSome r42, rf42, r3⟩ (fun hHeld => ?_)
   clear hK K;(try simp only [Act.put, px])
   (refine tk (v := ?_) 19 (by simp only [gx]; rfl) hHeld (.inl ⟨by rfl, ?_⟩) ?_; rotate_left; (focus (intro w k; (try dsimp only at k); go_simp; all_goals with_reducible rfl)); (try simp only [Act.put, px])); (refine tk (v := ?_) 20 (by simp only [gx]; rfl) hHeld (.inl ⟨by rfl, ?_⟩) ?_; rotate_left; (focus (intro w k; (try dsimp only at k); go_simp; all_goals with_reducible rfl)); (try simp only [Act.put, px]))
   refine wpAnyH_ready (rs := [21]) (by kernel_rfl) (by simp) ?_
   refine AllReadyH.cons (by simp only [gx]; rfl) (fun K hK => ?_) AllReadyH.nil
   go_simp
   refine hK.out _ _ ⟨congrArg Option.isSome (World.cell?_setCell_same' _ _ _ (congrArg Option.isSome r42)), rF (World.rowIs.set HROW.out 42 _) _, (World.cell?_setCell_far _ _ _ _ (fun e => HPB.out e.symm)).trans r3⟩ (fun hHeld => ?_)
   clear hK K;(try simp only [Act.put, px])
   (refine wpAnyH_done (by kernel_rfl) ?_ _)
   have hfin := HFIN.out
   rw [Nat.zero_add] at hfin;have HFI := zh hfin
   clear hfin HFIN r42 rf42 r3 HROW;go_wp2_with fail
   go_meet;exact ⟨_, HFI.out⟩
  case rest =>
   obtain ⟨u2, q1, q2, q3⟩ := hcut
   have e05 := cell_fr q2 e0 (fun e : pz = y.b => HPB.out e)
   have z0 := cell_fr q2 y0 (fun e : p8 = y.b => HP8.out y.b (.inl rfl) e)
   have z1 := cell_fr q2 y1 (fun e : p8 = y.b => HP8.out y.b (.inl rfl) e)
   have z2 := cell_fr q2 y2 (fun e : p8 = y.b => HP8.out y.b (.inl rfl) e)
   have z3 := cell_fr q2 y3 (fun e : p8 = y.b => HP8.out y.b (.inl rfl) e)
   have z4 := cell_fr q2 y4 (fun e : p8 = y.b => HP8.out y.b (.inl rfl) e)
   have hfr : Fr (FtT y (.slice (some ⟨g, 0, none⟩) t.news.length cv)) w wc := (HF.out.mono (fun _ _ h => h.elim)).trans (q2.mono (fun i _ h => .inl h))
   have hgr : ∀ g', u2.ownBlock = some g' → (Value.slice (some ⟨g, 0, none⟩) t.news.length cv).ownBlock = some g' ∨ w.heap.size ≤ g' := fun g' hg' => .inr (by have := q3 g' hg'; have := HF.out.size; omega)
   clear q2 q3 c42 e0 e3 f42 y0 y1 y2 y3 y4 H HF KEY1 KEY2 KEY3 HL1 HL2 HKO HKO1 hA;obtain ⟨w5, rfl⟩ : ∃ w5 : World, w5 = wc := ⟨_, rfl⟩
   have H := zh q1; clear q1; have HF := zh hfr; clear hfr; have HGR := zh hgr; clear hgr;go_wp2
   go_ret
   exact ⟨_, rfl, H.out, HF.out, HGR.out⟩
theorem TDo_hear (y : TIds) (u : Value) (t : Nt.NT) (a b n pl pb : Int) (m : Nat) (w : World) (hr : Nt.NOk t m) (h : TnAt w y u t) : TDoSaid y u t 4 a b n pl pb w := by
 have e : Nt.doT t 4 a b n = Nt.hearT t n := rfl
 unfold TDoSaid step6
 rw [e]
 clear e
 have hf1 : ∀ o, Fr NoB w (w.alloc o) := fun o => (Fr.refl _ _).alloc _
 have hb := h.lt (.inl rfl)
 have c42 := h.c42
 obtain ⟨av, cv, rfl, j1, j2, j3, hncv, hcvm, j4⟩ := ownsRow_rd h.news
 clear j1 j2 j3 j4
 by_cases ho : Nt.out t n
 ·have e : Nt.hearT t n = (t, 6) := by rw [Nt.hearT, if_pos ho]
  rw [e];clear e hncv hcvm
  unfold Nt.out at ho;by_cases h0 : n < 0
  ·have hb0 : decide (n < 0) = true := by simpa using h0
   clear ho h0;have H := zh h; clear h; have HR := zh hr; clear hr; have HF1 := zh hf1; clear hf1
   go_enter Tryz.func59, Tryz.ntmps59
   go_wp2_with fail;go_quiet (fail)
   go_wp2;go_ret
   exact TnDo.none ((H.out.keep0 (HF1.out _)).drewN _) (((HF1.out _).mono (fun _ _ h => h.elim)).drewN _)
  have hb0 : decide (n < 0) = false := by simpa using h0
  have hb1 : decide ((t.news.length : Int) ≤ n) = true := by simp; omega
  clear ho h0;have H := zh h; clear h; have HR := zh hr; clear hr; have HF1 := zh hf1; clear hf1
  go_enter Tryz.func59, Tryz.ntmps59
  go_wp2_with fail;go_quiet (fail)
  go_wp2;go_ret
  exact TnDo.none ((H.out.keep0 (HF1.out _)).drewN _) (((HF1.out _).mono (fun _ _ h => h.elim)).drewN _)
 have hk := Nt.out_no ho
 obtain ⟨k, rfl⟩ := Int.eq_ofNat_of_zero_le (a := n) (by unfold Nt.out at ho; omega)
 rw [Int.toNat_natCast] at hk
 have hb0 : decide ((k : Int) < 0) = false := by simp
 have hb1 : decide ((t.news.length : Int) ≤ k) = false := by simp; omega
 have e : Nt.hearT t k = Nt.heard (Nt.lost t k) (Nt.nwAt t k) := by rw [Nt.hearT, if_neg ho, Int.toNat_natCast]
 rw [e]
 clear e ho
 obtain ⟨g, rfl, d0, d1, d2, d3, d4⟩ := news_cells h.news hk
 have hki : (k : Int) < (t.news.length : Int) := by omega
 have hnw : nwGet t.news k = Nt.nwAt t k := rfl
 rw [hnw] at d0 d1 d2 d3 d4
 have hob : (Value.slice (some ⟨g, 0, none⟩) t.news.length cv).ownBlock = some g := rfl
 have hgl := h.lt (.inr (.inr hob))
 have hl40 := hr.len
 have hgn := hr.g _ (Nt.nwAt_mem hk)
 clear hnw hob
 have H := zh h; clear h; have HR := zh hr; clear hr; have HF1 := zh hf1; clear hf1; have HL := zh hl40; clear hl40; have HNC := zh hncv; clear hncv; have HCM := zh hcvm; clear hcvm; have HGN := zh hgn; clear hgn
 go_enter Tryz.func59, Tryz.ntmps59
 go_wp2_with fail
 go_quiet (fail)
 go_wp2_with fail
 refine wp_name fun w1 hw1 => ?_
 have hfa : Fr NoB w w1 := by rw [hw1]; exact (HF1.out _).drewN _
 have e0 : w1.cell? ⟨w.heap.size, 0, none⟩ = some (.int .i64 4) := by rw [hw1]; simp
 have e3 : w1.cell? ⟨w.heap.size, 3, none⟩ = some (.int .i64 k) := by rw [hw1]; simp
 have hpzl := World.block_lt_of_cell? w1 _ e0
 have h1 := H.out.keep0 hfa
 have c42 := cell_fr hfa c42 (fun h => h)
 have d0 := cell_fr hfa d0 (fun h => h)
 have d1 := cell_fr hfa d1 (fun h => h)
 have d2 := cell_fr hfa d2 (fun h => h)
 have d3 := cell_fr hfa d3 (fun h => h)
 have d4 := cell_fr hfa d4 (fun h => h)
 have hpb : w.heap.size ≠ y.b := by omega
 have hpn : ∀ i, FtT y (.slice (some ⟨g, 0, none⟩) t.news.length cv) i → ¬ w.heap.size = i := fun i hi e => by have := H.out.lt hi; omega
 clear hw1 hgl hb H HF1
 generalize hpz : w.heap.size = pz at *
 have HPZ := zh hpz; clear hpz
 have H := zh h1; clear h1; have HF := zh hfa; clear hfa; have HPB := zh hpb; clear hpb; have HPN := zh hpn; clear hpn
 generalize Nt.nwAt t k = x at *
 obtain ⟨x1, x2, x3, x4, x5⟩ := x
 dsimp only at d0 d1 d2 d3 d4 hpzl
 have hybl : y.b < w1.heap.size := H.out.lt (.inl rfl)
 have hgl1 : g < w1.heap.size := World.block_lt_of_cell? w1 _ d0
 go_cut [8] (fun s wx => CutY w1 x1 x2 x3 x4 x5 s wx)
 case first =>
  go_region
  all_goals (go_wp2_with fail; go_meet; exact ⟨rfl, ((Fr.refl _ _).drew).alloc _, by simp, by simp, by simp, by simp, by simp⟩)
 case rest =>
  obtain ⟨rfl, hfa, y0, y1, y2, y3, y4⟩ := hcut
  obtain ⟨w2, rfl⟩ : ∃ w2 : World, w2 = wc := ⟨_, rfl⟩
  have h2 := H.out.keep0 hfa
  have hf2 := HF.out.trans hfa
  have c42 := cell_fr hfa c42 (fun h => h)
  have e0 := cell_fr hfa e0 (fun h => h)
  have e3 := cell_fr hfa e3 (fun h => h)
  have f42 := h2.fz 42
  have hp8 : ∀ i, FtT y (.slice (some ⟨g, 0, none⟩) t.news.length cv) i → ¬ w1.heap.size = i := fun i hi e => by have := H.out.lt hi; omega
  clear hfa H HF d0 d1 d2 d3 d4 hpzl hybl hgl1;generalize w1.heap.size = p8 at *
  have H := zh h2; clear h2; have HF := zh hf2; clear hf2; have HP8 := zh hp8; clear hp8;go_wp2_with fail
  -- the source's two parts
  obtain ⟨A, hA, hAd⟩ : ∃ A : Addr, (if cv = k + 1 then some (⟨g, 0, none⟩ : Addr) else some ⟨g, (k + 1) * 5, none⟩) = some A ∧ Hid ((t.news.length = k + 1 ∨ A = ⟨g, (k + 1) * 5, none⟩)) := by
   by_cases hc : cv = k + 1
   ·exact ⟨⟨g, 0, none⟩, by simp [hc], .inl (by have := HNC.out; omega)⟩
   exact ⟨⟨g, (k + 1) * 5, none⟩, by simp [hc], .inr rfl⟩
  have key1 : ∀ (j : Nat) (v : Value), ((nwI (t.news.take k)).map (Value.int .i64))[j]? = some v → w2.cell? ((⟨g, 0, none⟩ : Addr).add j) = some v := by
   intro j v hv;refine news_rd H.out.news j v g rfl ?_
   have hj : j < (nwI (t.news.take k)).length := by have := (List.getElem?_eq_some_iff.1 hv).1; simpa using this
   rw [nwI_len, List.length_take] at hj;rw [← nwI_take, List.map_take, List.getElem?_take, if_pos (by omega)] at hv
   exact hv
  have key2 : ∀ (W : World), Fr NoB w2 W → ∀ (j : Nat) (v : Value), ((nwI (t.news.drop (k + 1))).map (Value.int .i64))[j]? = some v → W.cell? (A.add j) = some v := by
   intro W hW j v hv;have hj : j < (nwI (t.news.drop (k + 1))).length := by have := (List.getElem?_eq_some_iff.1 hv).1; simpa using this
   rw [nwI_len, List.length_drop] at hj;rcases hAd.out with hA1 | hA1
   ·omega
   rw [← nwI_drop, List.map_drop, List.getElem?_drop] at hv;have h5 := news_rd H.out.news ((k + 1) * 5 + j) v g rfl hv
   rw [add_base] at h5;rw [hA1, show (⟨g, (k + 1) * 5, none⟩ : Addr).add j = ⟨g, (k + 1) * 5 + j, none⟩ from by unfold Addr.add; split <;> simp_all]
   exact cell_fr hW h5 (fun h => h)
  have key3 : ∀ (v2 : Value) (w4 : World), Fr NoB w2 w4 → w4.ownsRow w2.heap.size 98 5 v2 (0 + k + (t.news.length - (k + 1))) (([] ++ (nwI (t.news.take k)).map (Value.int .i64)) ++ (nwI (t.news.drop (k + 1))).map (Value.int .i64)) →
   w4.cell? ⟨y.b, 42, none⟩ = some (.slice (some ⟨g, 0, none⟩) t.news.length cv) ∧ w4.frozen? ⟨y.b, 42, none⟩ = false ∧ w4.cell? ⟨pz, 3, none⟩ = some (.int .i64 k) ∧
   Hid (w4.rowIs y.b 70 44 (tnF y (.slice (some ⟨g, 0, none⟩) t.news.length cv) t.C)) ∧
   Hid (TnAt (w4.setCell ⟨y.b, 42, none⟩ v2) y v2 (Nt.lost t k) ∧ Fr (OneB y.b) w2 (w4.setCell ⟨y.b, 42, none⟩ v2) ∧ ∀ g, v2.ownBlock = some g → w2.heap.size ≤ g) := by
   intro v2 w4 hW h2;have hlen : (t.news.take k ++ t.news.drop (k + 1)).length = 0 + k + (t.news.length - (k + 1)) := by rw [List.length_append, List.length_take, List.length_drop]; omega
   have h4 := H.out.keep0 hW
   have hv : SlN w4 w2.heap.size v2 (t.news.take k ++ t.news.drop (k + 1)).length (nwI (t.news.take k ++ t.news.drop (k + 1))) := by
    rw [hlen, nwI_app];unfold SlN
    rw [List.map_append];simpa using h2
   have hv0 : SlN w4 0 v2 (t.news.take k ++ t.news.drop (k + 1)).length (nwI (t.news.take k ++ t.news.drop (k + 1))) := by
    refine ⟨hv.1, ?_⟩
    rcases hv.2 with hn | ⟨g', cap, cur, q1, q2, q3⟩
    ·exact .inl hn
    exact .inr ⟨g', cap, cur, q1, Nat.zero_le _, q3⟩
   refine ⟨cell_fr hW c42 (fun h => h), h4.fz 42, cell_fr hW e3 (fun h => h), h4.row, h4.setV hv0 (Fr.refl _ _), (hW.mono (fun _ _ h => h.elim)).set1 _ _, fun g' hg' => (oL hv g' hg').1⟩
  have hw2z : w2.drew.heap.size = w2.heap.size := rfl
  have hsl : t.news.length - (k + 1) + (k + 1) = t.news.length := by omega
  have hl1 : ((nwI (t.news.take k)).map (Value.int .i64)).length = k * 5 := by rw [List.length_map, nwI_len, List.length_take]; omega
  have hl2 : ((nwI (t.news.drop (k + 1))).map (Value.int .i64)).length = (t.news.length - (k + 1)) * 5 := by rw [List.length_map, nwI_len, List.length_drop]
  have hkcv : k ≤ cv := by have := HNC.out; omega
  have hkcv1 : k + 1 ≤ cv := by have := HNC.out; omega
  have hsum := IntWalk.i64_in ((k : Int) + 1) (by have := HL.out; omega)
  have hj1 : (k : Int) + 1 ≤ (t.news.length : Int) := by omega
  have hj0 : (0 : Int) ≤ (k : Int) + 1 := by omega
  have hkle : (k : Int) ≤ (cv : Int) := by omega
  have hko : 0 + k + (t.news.length - (k + 1)) ≤ 2147483648 := by have := HL.out; omega
  have hko1 : 0 + k ≤ 2147483648 := by have := HL.out; omega
  have KEY1 := zh key1; clear key1; have KEY2 := zh key2; clear key2; have KEY3 := zh key3; clear key3; have HL1 := zh hl1; clear hl1; have HL2 := zh hl2; clear hl2; have HKO := zh hko; clear hko; have HKO1 := zh hko1; clear hko1;clear hsl
  go_cut [144] (fun s wx => CutDrop y t k w2 s wx)
  case first =>
   (refine wp_region_held_drew (S := (fun W => (W.cell? ⟨y.b, 42, none⟩).isSome = true ∧ W.frozen? ⟨y.b, 42, none⟩ = false ∧ W.cell? ⟨pz, 3, none⟩ = some (.int .i64 k))) (by kernel_rfl) ⟨congrArg Option.isSome c42, f42, e3⟩ (fun hHeld => ?_))
   (refine tk (v := ?_) 0 (by simp only [gx]; rfl) hHeld (.inl ⟨by rfl, ?_⟩) ?_; rotate_left; (focus (intro w k; (try dsimp only at k); go_simp; all_goals with_reducible rfl)); (try simp only [Act.put, px])); (refine tk (v := ?_) 1 (by simp only [gx]; rfl) hHeld (.inl ⟨by rfl, ?_⟩) ?_; rotate_left; (focus (intro w k; (try dsimp only at k); go_simp; all_goals with_reducible rfl)); (try simp only [Act.put, px])); (refine tk (v := ?_) 2 (by simp only [gx]; rfl) hHeld (.inl ⟨by rfl, ?_⟩) ?_; rotate_left; (focus (intro w k; (try dsimp only at k); go_simp; all_goals with_reducible rfl)); (try simp only [Act.put, px])); (refine tk (v := ?_) 3 (by simp only [gx]; rfl) hHeld (.inl ⟨by rfl, ?_⟩) ?_; rotate_left; (focus (intro w k; (try dsimp only at k); go_simp; all_goals with_reducible rfl)); (try simp only [Act.put, px])); (refine tk (v := ?_) 4 (by simp only [gx]; rfl) hHeld (.inl ⟨by rfl, ?_⟩) ?_; rotate_left; (focus (intro w k; (try dsimp only at k); go_simp; all_goals with_reducible rfl)); (try simp only [Act.put, px])); (refine tk (v := ?_) 6 (by simp only [gx]; rfl) hHeld (.inl ⟨by rfl, ?_⟩) ?_; rotate_left; (focus (intro w k; (try dsimp only at k); go_simp; all_goals with_reducible rfl)); (try simp only [Act.put, px])); (refine tk (v := ?_) 7 (by simp only [gx]; rfl) hHeld (.inl ⟨by rfl, ?_⟩) ?_; rotate_left; (focus (intro w k; (try dsimp only at k); go_simp; all_goals with_reducible rfl)); (try simp only [Act.put, px])); (refine tk (v := ?_) 10 (by simp only [gx]; rfl) hHeld (.inl ⟨by rfl, ?_⟩) ?_; rotate_left; (focus (intro w k; (try dsimp only at k); go_simp; all_goals with_reducible rfl)); (try simp only [Act.put, px])); (refine tk (v := ?_) 11 (by simp only [gx]; rfl) hHeld (.inl ⟨by rfl, ?_⟩) ?_; rotate_left; (focus (intro w k; (try dsimp only at k); go_simp; all_goals with_reducible rfl)); (try simp only [Act.put, px])); (refine tk (v := ?_) 12 (by simp only [gx]; rfl) hHeld (.inl ⟨by rfl, ?_⟩) ?_; rotate_left; (focus (intro w k; (try dsimp only at k); go_simp; all_goals with_reducible rfl)); (try simp only [Act.put, px])); (refine tk (v := ?_) 14 (by simp only [gx]; rfl) hHeld (.inl ⟨by rfl, ?_⟩) ?_; rotate_left; (focus (intro w k; (try dsimp only at k); go_simp; all_goals with_reducible rfl)); (try simp only [Act.put, px])); (refine tk (v := ?_) 15 (by simp only [gx]; rfl) hHeld (.inl ⟨by rfl, ?_⟩) ?_; rotate_left; (focus (intro w k; (try dsimp only at k); go_simp; all_goals with_reducible rfl)); (try simp only [Act.put, px])); (refine tk (v := ?_) 16 (by simp only [gx]; rfl) hHeld (.inl ⟨by rfl, ?_⟩) ?_; rotate_left; (focus (intro w k; (try dsimp only at k); go_simp; all_goals with_reducible rfl)); (try simp only [Act.put, px]))
   refine wpAnyH_ready (rs := [5, 13]) (by kernel_rfl) (by simp) ?_
   refine AllReadyH.cons (by simp only [gx]; rfl) (fun K hK => ?_) (AllReadyH.cons (by simp only [gx]; rfl) (fun K hK => ?_) AllReadyH.nil)
   ·go_simp
    refine hK.out _ _ ⟨congrArg Option.isSome c42, f42, e3⟩ (fun hHeld => ?_)
    clear hK K;(try simp only [Act.put, px])
    (refine tk (v := ?_) 8 (by simp only [gx]; rfl) hHeld (.inl ⟨by rfl, ?_⟩) ?_; rotate_left; (focus (intro w k; (try dsimp only at k); go_simp; all_goals with_reducible rfl)); (try simp only [Act.put, px]))
    refine wpAnyH_ready (rs := [9, 13]) (by kernel_rfl) (by simp) ?_
    refine AllReadyH.cons (by simp only [gx]; rfl) (fun K hK => ?_) (AllReadyH.cons (by simp only [gx]; rfl) (fun K hK => ?_) AllReadyH.nil)
    ·refine step_own (by rfl) (.tmp 145) (.tmp 152) 67 98 5 40 (.agg #[.int .i64 0, .int .i64 0, .int .i64 0, .int .i64 0, .int .i64 0]) (by rfl) Tryz.underlying67 Tryz.info98 rfl (by omega) w2.heap.size (.slice none 0 0) 0 [] (by rfl) (World.ownsRow_nil _ _ _ _) ⟨g, 0, none⟩ k cv ((nwI (t.news.take k)).map (Value.int .i64)) (by rfl) HL1.out (by exact KEY1.out) (nw_one _) HKO1.out (by omega) (Nat.le_refl _) ?_; intro v1 w3 hv1 hfr; have hfr1 : Fr NoB w2 w3 := (Fr.refl _ w2).drew.trans (hfr.mono (fun i _ h => by cases h)); have s42 := cell_fr hfr1 c42 (fun h => h); have sf42 : w3.frozen? ⟨y.b, 42, none⟩ = false := (H.out.keep0 hfr1).fz 42; have s3 := cell_fr hfr1 e3 (fun h => h); have HFR1 := zh hfr1; clear hfr1 hfr; have HV1 := zh hv1; clear hv1
     refine hK.out _ _ ⟨congrArg Option.isSome s42, sf42, s3⟩ (fun hHeld => ?_)
     clear hK K;(try simp only [Act.put, px])
     refine wpAnyH_ready (rs := [13]) (by kernel_rfl) (by simp) ?_
     refine AllReadyH.cons (by simp only [gx]; rfl) (fun K hK => ?_) AllReadyH.nil
     go_simp
     refine hK.out _ _ ⟨congrArg Option.isSome s42, sf42, s3⟩ (fun hHeld => ?_)
     clear hK K;(try simp only [Act.put, px])
     (refine tk (v := ?_) 17 (by simp only [gx]; rfl) hHeld (.inl ⟨by rfl, ?_⟩) ?_; rotate_left; (focus (intro w k; (try dsimp only at k); go_simp; all_goals with_reducible rfl)); (try simp only [Act.put, px]))
     refine wpAnyH_ready (rs := [18]) (by kernel_rfl) (by simp) ?_
     refine AllReadyH.cons (by simp only [gx]; rfl) (fun K hK => ?_) AllReadyH.nil
     refine step_own (by rfl) (.tmp 153) (.tmp 161) 67 98 5 40 (.agg #[.int .i64 0, .int .i64 0, .int .i64 0, .int .i64 0, .int .i64 0]) (by rfl) Tryz.underlying67 Tryz.info98 rfl (by omega) w2.heap.size v1 (0 + k) _ (by rfl) HV1.out A (t.news.length - (k + 1)) (cv - (k + 1)) ((nwI (t.news.drop (k + 1))).map (Value.int .i64)) (by rfl) HL2.out (fun j u hu => KEY2.out _ HFR1.out j u hu) (nw_one _) HKO.out (by omega) HFR1.out.size ?_; intro v2 w4 hv2 hfr; obtain ⟨a2, cap2, rfl⟩ := own_slice hv2; have hfr2 : Fr NoB w2 w4 := HFR1.out.ownB HV1.out (Nat.le_refl _) hfr; obtain ⟨r42, rf42, r3, HROW, HFIN⟩ := KEY3.out _ w4 hfr2 hv2; clear hfr hfr2 hv2
     refine hK.out _ _ ⟨congrArg Option.isSome r42, rf42, r3⟩ (fun hHeld => ?_)
     clear hK K;(try simp only [Act.put, px])
     (refine tk (v := ?_) 19 (by simp only [gx]; rfl) hHeld (.inl ⟨by rfl, ?_⟩) ?_; rotate_left; (focus (intro w k; (try dsimp only at k); go_simp; all_goals with_reducible rfl)); (try simp only [Act.put, px])); (refine tk (v := ?_) 20 (by simp only [gx]; rfl) hHeld (.inl ⟨by rfl, ?_⟩) ?_; rotate_left; (focus (intro w k; (try dsimp only at k); go_simp; all_goals with_reducible rfl)); (try simp only [Act.put, px]))
     refine wpAnyH_ready (rs := [21]) (by kernel_rfl) (by simp) ?_
     refine AllReadyH.cons (by simp only [gx]; rfl) (fun K hK => ?_) AllReadyH.nil
     go_simp
     refine hK.out _ _ ⟨congrArg Option.isSome (World.cell?_setCell_same' _ _ _ (congrArg Option.isSome r42)), rF (World.rowIs.set HROW.out 42 _) _, (World.cell?_setCell_far _ _ _ _ (fun e => HPB.out e.symm)).trans r3⟩ (fun hHeld => ?_)
     clear hK K;(try simp only [Act.put, px])
     (refine wpAnyH_done (by kernel_rfl) ?_ _)
     have hfin := HFIN.out
     rw [Nat.zero_add] at hfin;have HFI := zh hfin
     clear hfin HFIN r42 rf42 r3 HROW;go_wp2_with fail
     go_meet;exact ⟨_, HFI.out⟩
    go_simp
    refine hK.out _ _ ⟨congrArg Option.isSome c42, f42, e3⟩ (fun hHeld => ?_)
    clear hK K;(try simp only [Act.put, px])
    (refine tk (v := ?_) 17 (by simp only [gx]; rfl) hHeld (.inl ⟨by rfl, ?_⟩) ?_; rotate_left; (focus (intro w k; (try dsimp only at k); go_simp; all_goals with_reducible rfl)); (try simp only [Act.put, px]))
    refine wpAnyH_ready (rs := [9]) (by kernel_rfl) (by simp) ?_
    refine AllReadyH.cons (by simp only [gx]; rfl) (fun K hK => ?_) AllReadyH.nil
    refine step_own (by rfl) (.tmp 145) (.tmp 152) 67 98 5 40 (.agg #[.int .i64 0, .int .i64 0, .int .i64 0, .int .i64 0, .int .i64 0]) (by rfl) Tryz.underlying67 Tryz.info98 rfl (by omega) w2.heap.size (.slice none 0 0) 0 [] (by rfl) (World.ownsRow_nil _ _ _ _) ⟨g, 0, none⟩ k cv ((nwI (t.news.take k)).map (Value.int .i64)) (by rfl) HL1.out (by exact KEY1.out) (nw_one _) HKO1.out (by omega) (Nat.le_refl _) ?_; intro v1 w3 hv1 hfr; have hfr1 : Fr NoB w2 w3 := (Fr.refl _ w2).drew.trans (hfr.mono (fun i _ h => by cases h)); have s42 := cell_fr hfr1 c42 (fun h => h); have sf42 : w3.frozen? ⟨y.b, 42, none⟩ = false := (H.out.keep0 hfr1).fz 42; have s3 := cell_fr hfr1 e3 (fun h => h); have HFR1 := zh hfr1; clear hfr1 hfr; have HV1 := zh hv1; clear hv1
    refine hK.out _ _ ⟨congrArg Option.isSome s42, sf42, s3⟩ (fun hHeld => ?_)
    clear hK K;(try simp only [Act.put, px])
    refine wpAnyH_ready (rs := [18]) (by kernel_rfl) (by simp) ?_
    refine AllReadyH.cons (by simp only [gx]; rfl) (fun K hK => ?_) AllReadyH.nil
    refine step_own (by rfl) (.tmp 153) (.tmp 161) 67 98 5 40 (.agg #[.int .i64 0, .int .i64 0, .int .i64 0, .int .i64 0, .int .i64 0]) (by rfl) Tryz.underlying67 Tryz.info98 rfl (by omega) w2.heap.size v1 (0 + k) _ (by rfl) HV1.out A (t.news.length - (k + 1)) (cv - (k + 1)) ((nwI (t.news.drop (k + 1))).map (Value.int .i64)) (by rfl) HL2.out (fun j u hu => KEY2.out _ HFR1.out j u hu) (nw_one _) HKO.out (by omega) HFR1.out.size ?_; intro v2 w4 hv2 hfr; obtain ⟨a2, cap2, rfl⟩ := own_slice hv2; have hfr2 : Fr NoB w2 w4 := HFR1.out.ownB HV1.out (Nat.le_refl _) hfr; obtain ⟨r42, rf42, r3, HROW, HFIN⟩ := KEY3.out _ w4 hfr2 hv2; clear hfr hfr2 hv2
    refine hK.out _ _ ⟨congrArg Option.isSome r42, rf42, r3⟩ (fun hHeld => ?_)
    clear hK K;(try simp only [Act.put, px])
    (refine tk (v := ?_) 19 (by simp only [gx]; rfl) hHeld (.inl ⟨by rfl, ?_⟩) ?_; rotate_left; (focus (intro w k; (try dsimp only at k); go_simp; all_goals with_reducible rfl)); (try simp only [Act.put, px])); (refine tk (v := ?_) 20 (by simp only [gx]; rfl) hHeld (.inl ⟨by rfl, ?_⟩) ?_; rotate_left; (focus (intro w k; (try dsimp only at k); go_simp; all_goals with_reducible rfl)); (try simp only [Act.put, px]))
    refine wpAnyH_ready (rs := [21]) (by kernel_rfl) (by simp) ?_
    refine AllReadyH.cons (by simp only [gx]; rfl) (fun K hK => ?_) AllReadyH.nil
    go_simp
    refine hK.out _ _ ⟨congrArg Option.isSome (World.cell?_setCell_same' _ _ _ (congrArg Option.isSome r42)), rF (World.rowIs.set HROW.out 42 _) _, (World.cell?_setCell_far _ _ _ _ (fun e => HPB.out e.symm)).trans r3⟩ (fun hHeld => ?_)
    clear hK K;(try simp only [Act.put, px])
    (refine wpAnyH_done (by kernel_rfl) ?_ _)
    have hfin := HFIN.out
    rw [Nat.zero_add] at hfin;have HFI := zh hfin
    clear hfin HFIN r42 rf42 r3 HROW;go_wp2_with fail
    go_meet;exact ⟨_, HFI.out⟩
   go_simp
   refine hK.out _ _ ⟨congrArg Option.isSome c42, f42, e3⟩ (fun hHeld => ?_)
   clear hK K;(try simp only [Act.put, px])
   (refine tk (v := ?_) 17 (by simp only [gx]; rfl) hHeld (.inl ⟨by rfl, ?_⟩) ?_; rotate_left; (focus (intro w k; (try dsimp only at k); go_simp; all_goals with_reducible rfl)); (try simp only [Act.put, px]))
   refine wpAnyH_ready (rs := [5]) (by kernel_rfl) (by simp) ?_
   refine AllReadyH.cons (by simp only [gx]; rfl) (fun K hK => ?_) AllReadyH.nil
   go_simp
   refine hK.out _ _ ⟨congrArg Option.isSome c42, f42, e3⟩ (fun hHeld => ?_)
   clear hK K;(try simp only [Act.put, px])
   (refine tk (v := ?_) 8 (by simp only [gx]; rfl) hHeld (.inl ⟨by rfl, ?_⟩) ?_; rotate_left; (focus (intro w k; (try dsimp only at k); go_simp; all_goals with_reducible rfl)); (try simp only [Act.put, px]))
   refine wpAnyH_ready (rs := [9]) (by kernel_rfl) (by simp) ?_
   refine AllReadyH.cons (by simp only [gx]; rfl) (fun K hK => ?_) AllReadyH.nil
   refine step_own (by rfl) (.tmp 145) (.tmp 152) 67 98 5 40 (.agg #[.int .i64 0, .int .i64 0, .int .i64 0, .int .i64 0, .int .i64 0]) (by rfl) Tryz.underlying67 Tryz.info98 rfl (by omega) w2.heap.size (.slice none 0 0) 0 [] (by rfl) (World.ownsRow_nil _ _ _ _) ⟨g, 0, none⟩ k cv ((nwI (t.news.take k)).map (Value.int .i64)) (by rfl) HL1.out (by exact KEY1.out) (nw_one _) HKO1.out (by omega) (Nat.le_refl _) ?_; intro v1 w3 hv1 hfr; have hfr1 : Fr NoB w2 w3 := (Fr.refl _ w2).drew.trans (hfr.mono (fun i _ h => by cases h)); have s42 := cell_fr hfr1 c42 (fun h => h); have sf42 : w3.frozen? ⟨y.b, 42, none⟩ = false := (H.out.keep0 hfr1).fz 42; have s3 := cell_fr hfr1 e3 (fun h => h); have HFR1 := zh hfr1; clear hfr1 hfr; have HV1 := zh hv1; clear hv1
   refine hK.out _ _ ⟨congrArg Option.isSome s42, sf42, s3⟩ (fun hHeld => ?_)
   clear hK K;(try simp only [Act.put, px])
   refine wpAnyH_ready (rs := [18]) (by kernel_rfl) (by simp) ?_
   refine AllReadyH.cons (by simp only [gx]; rfl) (fun K hK => ?_) AllReadyH.nil
   refine step_own (by rfl) (.tmp 153) (.tmp 161) 67 98 5 40 (.agg #[.int .i64 0, .int .i64 0, .int .i64 0, .int .i64 0, .int .i64 0]) (by rfl) Tryz.underlying67 Tryz.info98 rfl (by omega) w2.heap.size v1 (0 + k) _ (by rfl) HV1.out A (t.news.length - (k + 1)) (cv - (k + 1)) ((nwI (t.news.drop (k + 1))).map (Value.int .i64)) (by rfl) HL2.out (fun j u hu => KEY2.out _ HFR1.out j u hu) (nw_one _) HKO.out (by omega) HFR1.out.size ?_; intro v2 w4 hv2 hfr; obtain ⟨a2, cap2, rfl⟩ := own_slice hv2; have hfr2 : Fr NoB w2 w4 := HFR1.out.ownB HV1.out (Nat.le_refl _) hfr; obtain ⟨r42, rf42, r3, HROW, HFIN⟩ := KEY3.out _ w4 hfr2 hv2; clear hfr hfr2 hv2
   refine hK.out _ _ ⟨congrArg Option.isSome r42, rf42, r3⟩ (fun hHeld => ?_)
   clear hK K;(try simp only [Act.put, px])
   (refine tk (v := ?_) 19 (by simp only [gx]; rfl) hHeld (.inl ⟨by rfl, ?_⟩) ?_; rotate_left; (focus (intro w k; (try dsimp only at k); go_simp; all_goals with_reducible rfl)); (try simp only [Act.put, px])); (refine tk (v := ?_) 20 (by simp only [gx]; rfl) hHeld (.inl ⟨by rfl, ?_⟩) ?_; rotate_left; (focus (intro w k; (try dsimp only at k); go_simp; all_goals with_reducible rfl)); (try simp only [Act.put, px]))
   refine wpAnyH_ready (rs := [21]) (by kernel_rfl) (by simp) ?_
   refine AllReadyH.cons (by simp only [gx]; rfl) (fun K hK => ?_) AllReadyH.nil
   go_simp
   refine hK.out _ _ ⟨congrArg Option.isSome (World.cell?_setCell_same' _ _ _ (congrArg Option.isSome r42)), rF (World.rowIs.set HROW.out 42 _) _, (World.cell?_setCell_far _ _ _ _ (fun e => HPB.out e.symm)).trans r3⟩ (fun hHeld => ?_)
   clear hK K;(try simp only [Act.put, px])
   (refine wpAnyH_done (by kernel_rfl) ?_ _)
   have hfin := HFIN.out
   rw [Nat.zero_add] at hfin;have HFI := zh hfin
   clear hfin HFIN r42 rf42 r3 HROW;go_wp2_with fail
   go_meet;exact ⟨_, HFI.out⟩
  case rest =>
   obtain ⟨u2, q1, q2, q3⟩ := hcut
   have e05 := cell_fr q2 e0 (fun e : pz = y.b => HPB.out e)
   have z0 := cell_fr q2 y0 (fun e : p8 = y.b => HP8.out y.b (.inl rfl) e)
   have z1 := cell_fr q2 y1 (fun e : p8 = y.b => HP8.out y.b (.inl rfl) e)
   have z2 := cell_fr q2 y2 (fun e : p8 = y.b => HP8.out y.b (.inl rfl) e)
   have z3 := cell_fr q2 y3 (fun e : p8 = y.b => HP8.out y.b (.inl rfl) e)
   have z4 := cell_fr q2 y4 (fun e : p8 = y.b => HP8.out y.b (.inl rfl) e)
   have hfr : Fr (FtT y (.slice (some ⟨g, 0, none⟩) t.news.length cv)) w wc := (HF.out.mono (fun _ _ h => h.elim)).trans (q2.mono (fun i _ h => .inl h))
   have hgr : ∀ g', u2.ownBlock = some g' → (Value.slice (some ⟨g, 0, none⟩) t.news.length cv).ownBlock = some g' ∨ w.heap.size ≤ g' := fun g' hg' => .inr (by have := q3 g' hg'; have := HF.out.size; omega)
   clear q2 q3 c42 e0 e3 f42 y0 y1 y2 y3 y4 H HF KEY1 KEY2 KEY3 HL1 HL2 HKO HKO1 hA;obtain ⟨w5, rfl⟩ : ∃ w5 : World, w5 = wc := ⟨_, rfl⟩
   have hgx := HGN.out
   have hr2 := HR.out.lost k
   obtain ⟨gx, rfl⟩ := Int.eq_ofNat_of_zero_le (show (0 : Int) ≤ x2 from hgx.1)
   have hgi : (gx : Int) < 6 := hgx.2
   have hg6 : gx < 6 := by omega
   have c1 := q1.cN hg6
   clear hgx;have H := zh q1; clear q1; have HF := zh hfr; clear hfr; have HGR := zh hgr; clear hgr; have HR2 := zh hr2; clear hr2
   go_wp2_with fail;(refine still_tail 8 (by kernel_rfl) (by kernel_rfl) ?_; simp only [List.take_succ_cons, List.take_zero, List.drop_succ_cons, List.drop_zero]; (iterate 8 (refine wpStill_step (fun K hK => ?_); go_simp; (with_reducible refine hK _ ?_); clear hK K)); refine wpStill_nil ?_)
   go_wp2_with fail;refine (MHear_any (y.N gx) x1 gx x3 x4 x5 ((Nt.lost t k).N gx) _ (HR2.out.run gx hg6).ok (by exact H.out.node gx hg6)).mono ?_
   rintro e w6 ⟨rfl, hn, hf⟩
   have h3 := TnAt.setN (w := w5.drew) (H.out.drewN 1) hg6 hn hf
   have hf3 : Fr (FtT y (.slice (some ⟨g, 0, none⟩) t.news.length cv)) w w6 := HF.out.drew.trans (hf.mono (fun i _ h => .inr (.inl ⟨gx, hg6, h⟩)))
   clear hn hf;have H3 := zh h3; clear h3; have HF3 := zh hf3; clear hf3
   go_wp2;go_ret
   refine ⟨_, ?_, ?_, HF3.out, HGR.out⟩
   ·simp only [Nt.heard, Int.toNat_natCast]; rfl
   have := H3.out
   simp only [Nt.heard, Int.toNat_natCast]
   exact this
theorem TDo_dbl (y : TIds) (u : Value) (t : Nt.NT) (a b n pl pb : Int) (m : Nat) (w : World) (hr : Nt.NOk t m) (h : TnAt w y u t) : TDoSaid y u t 6 a b n pl pb w := by
 have e : Nt.doT t 6 a b n = Nt.dblT t n := rfl
 unfold TDoSaid step6
 rw [e]
 clear e
 have hf1 : ∀ o, Fr NoB w (w.alloc o) := fun o => (Fr.refl _ _).alloc _
 have hb := h.lt (.inl rfl)
 have c42 := h.c42
 obtain ⟨av, cv, rfl, j1, j2, j3, hncv, hcvm, j4⟩ := ownsRow_rd h.news
 clear j1 j2 j3 j4
 by_cases ho : Nt.out t n
 ·have e : Nt.dblT t n = (t, 6) := by rw [Nt.dblT, if_pos ho]
  rw [e];clear e hncv hcvm
  unfold Nt.out at ho;by_cases h0 : n < 0
  ·have hb0 : decide (n < 0) = true := by simpa using h0
   clear ho h0;have H := zh h; clear h; have HR := zh hr; clear hr; have HF1 := zh hf1; clear hf1
   go_enter Tryz.func59, Tryz.ntmps59
   go_wp2_with fail;go_quiet (fail)
   go_wp2;go_ret
   exact TnDo.none ((H.out.keep0 (HF1.out _)).drewN _) (((HF1.out _).mono (fun _ _ h => h.elim)).drewN _)
  have hb0 : decide (n < 0) = false := by simpa using h0
  have hb1 : decide ((t.news.length : Int) ≤ n) = true := by simp; omega
  clear ho h0;have H := zh h; clear h; have HR := zh hr; clear hr; have HF1 := zh hf1; clear hf1
  go_enter Tryz.func59, Tryz.ntmps59
  go_wp2_with fail;go_quiet (fail)
  go_wp2;go_ret
  exact TnDo.none ((H.out.keep0 (HF1.out _)).drewN _) (((HF1.out _).mono (fun _ _ h => h.elim)).drewN _)
 have ho0 := ho
 have hk := Nt.out_no ho
 obtain ⟨k, rfl⟩ := Int.eq_ofNat_of_zero_le (a := n) (by unfold Nt.out at ho; omega)
 rw [Int.toNat_natCast] at hk
 have hb0 : decide ((k : Int) < 0) = false := by simp
 have hb1 : decide ((t.news.length : Int) ≤ k) = false := by simp; omega
 obtain ⟨R, hR⟩ : ∃ R, Nt.dblT t k = R := ⟨_, rfl⟩
 rw [hR]
 rw [Nt.dblT, if_neg ho0, Int.toNat_natCast] at hR
 have HRR := zh hR
 clear hR ho ho0
 obtain ⟨g, rfl, d0, d1, d2, d3, d4⟩ := news_cells h.news hk
 have hki : (k : Int) < (t.news.length : Int) := by omega
 have hnw : nwGet t.news k = Nt.nwAt t k := rfl
 rw [hnw] at d0 d1 d2 d3 d4
 have hob : (Value.slice (some ⟨g, 0, none⟩) t.news.length cv).ownBlock = some g := rfl
 have hgl := h.lt (.inr (.inr hob))
 have hl40 := hr.len
 have hgn := hr.g _ (Nt.nwAt_mem hk)
 clear hnw hob
 have H := zh h; clear h; have HR := zh hr; clear hr; have HF1 := zh hf1; clear hf1; have HL := zh hl40; clear hl40; have HNC := zh hncv; clear hncv; have HCM := zh hcvm; clear hcvm; have HGN := zh hgn; clear hgn
 go_enter Tryz.func59, Tryz.ntmps59
 go_wp2_with fail
 go_quiet (fail)
 go_wp2_with fail
 refine wp_name fun w1 hw1 => ?_
 have hfa : Fr NoB w w1 := by rw [hw1]; exact (HF1.out _).drewN _
 have e0 : w1.cell? ⟨w.heap.size, 0, none⟩ = some (.int .i64 6) := by rw [hw1]; simp
 have e3 : w1.cell? ⟨w.heap.size, 3, none⟩ = some (.int .i64 k) := by rw [hw1]; simp
 have hpzl := World.block_lt_of_cell? w1 _ e0
 have h1 := H.out.keep0 hfa
 have c42 := cell_fr hfa c42 (fun h => h)
 have d0 := cell_fr hfa d0 (fun h => h)
 have d1 := cell_fr hfa d1 (fun h => h)
 have d2 := cell_fr hfa d2 (fun h => h)
 have d3 := cell_fr hfa d3 (fun h => h)
 have d4 := cell_fr hfa d4 (fun h => h)
 have hpb : w.heap.size ≠ y.b := by omega
 have hpn : ∀ i, FtT y (.slice (some ⟨g, 0, none⟩) t.news.length cv) i → ¬ w.heap.size = i := fun i hi e => by have := H.out.lt hi; omega
 clear hw1 hgl hb H HF1
 generalize hpz : w.heap.size = pz at *
 have HPZ := zh hpz; clear hpz
 have H := zh h1; clear h1; have HF := zh hfa; clear hfa; have HPB := zh hpb; clear hpb; have HPN := zh hpn; clear hpn
 generalize Nt.nwAt t k = x at *
 obtain ⟨x1, x2, x3, x4, x5⟩ := x
 dsimp only at d0 d1 d2 d3 d4 hpzl
 have hybl : y.b < w1.heap.size := H.out.lt (.inl rfl)
 have hgl1 : g < w1.heap.size := World.block_lt_of_cell? w1 _ d0
 go_cut [8] (fun s wx => CutY w1 x1 x2 x3 x4 x5 s wx)
 case first =>
  go_region
  all_goals (go_wp2_with fail; go_meet; exact ⟨rfl, ((Fr.refl _ _).drew).alloc _, by simp, by simp, by simp, by simp, by simp⟩)
 case rest =>
  obtain ⟨rfl, hfa, y0, y1, y2, y3, y4⟩ := hcut
  obtain ⟨w2, rfl⟩ : ∃ w2 : World, w2 = wc := ⟨_, rfl⟩
  have h2 := H.out.keep0 hfa
  have hf2 := HF.out.trans hfa
  have c42 := cell_fr hfa c42 (fun h => h)
  have e0 := cell_fr hfa e0 (fun h => h)
  have e3 := cell_fr hfa e3 (fun h => h)
  have f42 := h2.fz 42
  have hp8 : ∀ i, FtT y (.slice (some ⟨g, 0, none⟩) t.news.length cv) i → ¬ w1.heap.size = i := fun i hi e => by have := H.out.lt hi; omega
  clear hfa H HF d0 d1 d2 d3 d4 hpzl hybl hgl1;generalize w1.heap.size = p8 at *
  have H := zh h2; clear h2; have HF := zh hf2; clear hf2; have HP8 := zh hp8; clear hp8;by_cases hl : t.news.length = 40
  ·have hR := HRR.out
   rw [if_pos hl] at hR;subst hR
   clear HRR;have hlb : decide ((40 : Int) ≤ (t.news.length : Int)) = true := by simp; omega
   clear hl;go_wp2
   go_ret
   exact TnDo.none H.out (HF.out.mono (fun _ _ h => h.elim))
  have hR := HRR.out
  rw [if_neg hl] at hR;subst hR
  clear HRR;have hlb : decide ((40 : Int) ≤ (t.news.length : Int)) = false := by have := HL.out; simp; omega
  have hl40' : t.news.length < 40 := by have := HL.out; omega
  have hyb2 : y.b < w2.heap.size := H.out.lt (.inl rfl)
  have hp82 : p8 < w2.heap.size := World.block_lt_of_cell? w2 _ y0
  go_wp2_with fail;have key1 : ∀ (j : Nat) (v : Value), ((nwI t.news).map (Value.int .i64))[j]? = some v → w2.cell? ((⟨g, 0, none⟩ : Addr).add j) = some v := fun j v hv => news_rd H.out.news j v g rfl hv
  have keyS : ∀ W : World, Fr NoB w2 W → (W.cell? ⟨y.b, 42, none⟩).isSome = true ∧ W.frozen? ⟨y.b, 42, none⟩ = false ∧ W.cell? ⟨p8, 0, none⟩ = some (.int .i64 x1) ∧ W.cell? ⟨p8, 1, none⟩ = some (.int .i64 x2) ∧ W.cell? ⟨p8, 2, none⟩ = some (.int .i64 x3) ∧ W.cell? ⟨p8, 3, none⟩ = some (.int .i64 x4) ∧ W.cell? ⟨p8, 4, none⟩ = some (.int .i64 x5) := fun W hW =>
   ⟨congrArg Option.isSome (cell_fr hW c42 (fun h => h)), (H.out.keep0 hW).fz 42, cell_fr hW y0 (fun h => h), cell_fr hW y1 (fun h => h), cell_fr hW y2 (fun h => h), cell_fr hW y3 (fun h => h), cell_fr hW y4 (fun h => h)⟩
  have keyT : ∀ W : World, Fr NoB w2 W → ∀ v : Value, ((W.setCell ⟨y.b, 42, none⟩ v).cell? ⟨y.b, 42, none⟩).isSome = true ∧ (W.setCell ⟨y.b, 42, none⟩ v).frozen? ⟨y.b, 42, none⟩ = false ∧ (W.setCell ⟨y.b, 42, none⟩ v).cell? ⟨p8, 0, none⟩ = some (.int .i64 x1) ∧ (W.setCell ⟨y.b, 42, none⟩ v).cell? ⟨p8, 1, none⟩ = some (.int .i64 x2) ∧ (W.setCell ⟨y.b, 42, none⟩ v).cell? ⟨p8, 2, none⟩ = some (.int .i64 x3) ∧ (W.setCell ⟨y.b, 42, none⟩ v).cell? ⟨p8, 3, none⟩ = some (.int .i64 x4) ∧ (W.setCell ⟨y.b, 42, none⟩ v).cell? ⟨p8, 4, none⟩ = some (.int .i64 x5) := fun W hW v =>
   ⟨congrArg Option.isSome (World.cell?_setCell_same' _ _ _ (keyS W hW).1), rF (World.rowIs.set (H.out.keep0 hW).row 42 _) _,
    (World.cell?_setCell_far _ _ _ _ (fun e => HP8.out y.b (.inl rfl) e.symm)).trans (keyS W hW).2.2.1, (World.cell?_setCell_far _ _ _ _ (fun e => HP8.out y.b (.inl rfl) e.symm)).trans (keyS W hW).2.2.2.1, (World.cell?_setCell_far _ _ _ _ (fun e => HP8.out y.b (.inl rfl) e.symm)).trans (keyS W hW).2.2.2.2.1, (World.cell?_setCell_far _ _ _ _ (fun e => HP8.out y.b (.inl rfl) e.symm)).trans (keyS W hW).2.2.2.2.2.1, (World.cell?_setCell_far _ _ _ _ (fun e => HP8.out y.b (.inl rfl) e.symm)).trans (keyS W hW).2.2.2.2.2.2⟩
  have key3 : ∀ (v2 : Value) (w4 : World), Fr NoB w2 w4 → w4.ownsRow w2.heap.size 98 5 v2 (0 + t.news.length + 1) (([] ++ (nwI t.news).map (Value.int .i64)) ++ [.int .i64 x1, .int .i64 x2, .int .i64 x3, .int .i64 x4, .int .i64 x5]) →
   w4.cell? ⟨y.b, 42, none⟩ = some (.slice (some ⟨g, 0, none⟩) t.news.length cv) ∧ w4.frozen? ⟨y.b, 42, none⟩ = false ∧
   Hid (w4.rowIs y.b 70 44 (tnF y (.slice (some ⟨g, 0, none⟩) t.news.length cv) t.C)) ∧
   Hid (TnDo y (.slice (some ⟨g, 0, none⟩) t.news.length cv) { t with news := t.news ++ [(⟨x1, x2, x3, x4, x5⟩ : Nt.Nw)] } 0 w (.returned (.int .i64 0)) (w4.setCell ⟨y.b, 42, none⟩ v2)) := by
   intro v2 w4 hW h2;have hlen : (t.news ++ [(⟨x1, x2, x3, x4, x5⟩ : Nt.Nw)]).length = 0 + t.news.length + 1 := by rw [List.length_append]; simp
   have h4 := H.out.keep0 hW
   have hv : SlN w4 w2.heap.size v2 (t.news ++ [(⟨x1, x2, x3, x4, x5⟩ : Nt.Nw)]).length (nwI (t.news ++ [(⟨x1, x2, x3, x4, x5⟩ : Nt.Nw)])) := by
    rw [hlen, nwI_app];unfold SlN
    rw [List.map_append];simpa [nwI, List.flatMap] using h2
   have hv0 : SlN w4 0 v2 (t.news ++ [(⟨x1, x2, x3, x4, x5⟩ : Nt.Nw)]).length (nwI (t.news ++ [(⟨x1, x2, x3, x4, x5⟩ : Nt.Nw)])) := by
    refine ⟨hv.1, ?_⟩
    rcases hv.2 with hn | ⟨g', cap, cur, q1, q2, q3⟩
    ·exact .inl hn
    exact .inr ⟨g', cap, cur, q1, Nat.zero_le _, q3⟩
   refine ⟨cell_fr hW c42 (fun h => h), h4.fz 42, h4.row, v2, rfl, h4.setV hv0 (Fr.refl _ _), ((HF.out.trans hW).mono (fun _ _ h => h.elim)).trans (((Fr.refl (OneB y.b) w4).set1 _ _).mono (fun i _ h => .inl h)), fun g' hg' => .inr (by have := (oL hv g' hg').1; have := HF.out.size; omega)⟩
  have hl1 : ((nwI t.news).map (Value.int .i64)).length = t.news.length * 5 := by rw [List.length_map, nwI_len]
  have hko : 0 + t.news.length + 1 ≤ 2147483648 := by omega
  have hko1 : 0 + t.news.length ≤ 2147483648 := by omega
  have KEY1 := zh key1; clear key1; have KEYS := zh keyS; clear keyS; have KEYT := zh keyT; clear keyT; have KEY3 := zh key3; clear key3; have HL1 := zh hl1; clear hl1; have HKO := zh hko; clear hko; have HKO1 := zh hko1; clear hko1;clear hl hl40'
  (refine wp_region_held_drew (S := (fun W => (W.cell? ⟨y.b, 42, none⟩).isSome = true ∧ W.frozen? ⟨y.b, 42, none⟩ = false ∧ W.cell? ⟨p8, 0, none⟩ = some (.int .i64 x1) ∧ W.cell? ⟨p8, 1, none⟩ = some (.int .i64 x2) ∧ W.cell? ⟨p8, 2, none⟩ = some (.int .i64 x3) ∧ W.cell? ⟨p8, 3, none⟩ = some (.int .i64 x4) ∧ W.cell? ⟨p8, 4, none⟩ = some (.int .i64 x5))) (by kernel_rfl) (KEYS.out _ (Fr.refl NoB w2).drew) (fun hHeld => ?_))
  (refine tk (v := ?_) 0 (by simp only [gx]; rfl) hHeld (.inl ⟨by rfl, ?_⟩) ?_; rotate_left; (focus (intro w k; (try dsimp only at k); go_simp; all_goals with_reducible rfl)); (try simp only [Act.put, px])); (refine tk (v := ?_) 1 (by simp only [gx]; rfl) hHeld (.inl ⟨by rfl, ?_⟩) ?_; rotate_left; (focus (intro w k; (try dsimp only at k); go_simp; all_goals with_reducible rfl)); (try simp only [Act.put, px])); (refine tk (v := ?_) 2 (by simp only [gx]; rfl) hHeld (.inl ⟨by rfl, ?_⟩) ?_; rotate_left; (focus (intro w k; (try dsimp only at k); go_simp; all_goals with_reducible rfl)); (try simp only [Act.put, px])); (refine tk (v := ?_) 3 (by simp only [gx]; rfl) hHeld (.inl ⟨by rfl, ?_⟩) ?_; rotate_left; (focus (intro w k; (try dsimp only at k); go_simp; all_goals with_reducible rfl)); (try simp only [Act.put, px])); (refine tk (v := ?_) 4 (by simp only [gx]; rfl) hHeld (.inl ⟨by rfl, ?_⟩) ?_; rotate_left; (focus (intro w k; (try dsimp only at k); go_simp; all_goals with_reducible rfl)); (try simp only [Act.put, px])); (refine tk (v := ?_) 7 (by simp only [gx]; rfl) hHeld (.inl ⟨by rfl, ?_⟩) ?_; rotate_left; (focus (intro w k; (try dsimp only at k); go_simp; all_goals with_reducible rfl)); (try simp only [Act.put, px]))
  refine wpAnyH_ready (rs := [5, 8]) (by kernel_rfl) (by simp) ?_
  refine AllReadyH.cons (by simp only [gx]; rfl) (fun K hK => ?_) (AllReadyH.cons (by simp only [gx]; rfl) (fun K hK => ?_) AllReadyH.nil)
  ·go_simp
   refine hK.out _ _ (KEYS.out _ (Fr.refl NoB w2).drew) (fun hHeld => ?_)
   clear hK K;(try simp only [Act.put, px])
   refine wpAnyH_ready (rs := [6, 8]) (by kernel_rfl) (by simp) ?_
   refine AllReadyH.cons (by simp only [gx]; rfl) (fun K hK => ?_) (AllReadyH.cons (by simp only [gx]; rfl) (fun K hK => ?_) AllReadyH.nil)
   ·
    refine step_own (by rfl) (.tmp 133) (.tmp 137) 67 98 5 40 (.agg #[.int .i64 0, .int .i64 0, .int .i64 0, .int .i64 0, .int .i64 0]) (by rfl) Tryz.underlying67 Tryz.info98 rfl (by omega) w2.heap.size (.slice none 0 0) 0 [] (by rfl) (World.ownsRow_nil _ _ _ _) ⟨g, 0, none⟩ t.news.length cv ((nwI t.news).map (Value.int .i64)) (by rfl) HL1.out (fun j u hu => cell_fr (Fr.refl NoB w2).drew (KEY1.out j u hu) (fun h => h)) (nw_one _) HKO1.out (by omega) (Nat.le_refl _) ?_
    intro v1 w3 hv1 hfr;have hfrA := ((Fr.refl NoB w2).drew).trans (hfr.mono (fun i _ h => by cases h))
    have HFR1 := zh hfrA; clear hfrA;clear hfr
    have HV1 := zh hv1; clear hv1;refine hK.out _ _ (KEYS.out _ HFR1.out) (fun hHeld => ?_)
    clear hK K;(try simp only [Act.put, px])
    refine wpAnyH_ready (rs := [8]) (by kernel_rfl) (by simp) ?_
    refine AllReadyH.cons (by simp only [gx]; rfl) (fun K hK => ?_) AllReadyH.nil
    go_simp
    refine hK.out _ _ (KEYS.out _ (HFR1.out.alloc _)) (fun hHeld => ?_)
    clear hK K;(try simp only [Act.put, px])
    refine wpAnyH_ready (rs := [9]) (by kernel_rfl) (by simp) ?_
    refine AllReadyH.cons (by simp only [gx]; rfl) (fun K hK => ?_) AllReadyH.nil
    refine step_own (by rfl) (.tmp 138) (.tmp 140) 67 98 5 40 (.agg #[.int .i64 0, .int .i64 0, .int .i64 0, .int .i64 0, .int .i64 0]) (by rfl) Tryz.underlying67 Tryz.info98 rfl (by omega) w2.heap.size v1 (0 + t.news.length) _ (by rfl) (oA HV1.out _) ⟨w3.heap.size, 0, none⟩ 1 1 [.int .i64 x1, .int .i64 x2, .int .i64 x3, .int .i64 x4, .int .i64 x5] (by rfl) (by rfl) (World.news_of_block (cs := #[.int .i64 x1, .int .i64 x2, .int .i64 x3, .int .i64 x4, .int .i64 x5]) (t := 98) (fr := (0, 0)) (heap_alloc_new w3 _)) (by simp [Value.oneCell']) HKO.out (by omega) ((HFR1.out.alloc _).size) ?_
    intro v2 w4 hv2 hfr; obtain ⟨a2, cap2, rfl⟩ := own_slice hv2
    have hfr2 : Fr NoB w2 w4 := Fr.ownB (HFR1.out.alloc _) (oA HV1.out _) (Nat.le_refl _) hfr
    obtain ⟨r42, rf42, HROW, HFIN⟩ := KEY3.out _ w4 hfr2 hv2
    have HFR2 := zh hfr2; clear hfr hfr2 hv2;refine hK.out _ _ (KEYS.out _ HFR2.out) (fun hHeld => ?_)
    clear hK K;(try simp only [Act.put, px])
    (refine tk (v := ?_) 10 (by simp only [gx]; rfl) hHeld (.inl ⟨by rfl, ?_⟩) ?_; rotate_left; (focus (intro w k; (try dsimp only at k); go_simp; all_goals with_reducible rfl)); (try simp only [Act.put, px])); (refine tk (v := ?_) 11 (by simp only [gx]; rfl) hHeld (.inl ⟨by rfl, ?_⟩) ?_; rotate_left; (focus (intro w k; (try dsimp only at k); go_simp; all_goals with_reducible rfl)); (try simp only [Act.put, px]))
    refine wpAnyH_ready (rs := [12]) (by kernel_rfl) (by simp) ?_
    refine AllReadyH.cons (by simp only [gx]; rfl) (fun K hK => ?_) AllReadyH.nil
    go_simp
    refine hK.out _ _ (KEYT.out _ HFR2.out _) (fun hHeld => ?_)
    clear hK K;(try simp only [Act.put, px])
    (refine wpAnyH_done (by kernel_rfl) ?_ _)
    have hfin := HFIN.out
    rw [Nat.zero_add] at hfin;have HFI := zh hfin
    clear hfin HFIN r42 rf42 HROW;go_wp2
    go_ret
    exact HFI.out
   go_simp
   refine hK.out _ _ (KEYS.out _ ((Fr.refl NoB w2).drew.alloc _)) (fun hHeld => ?_)
   clear hK K;(try simp only [Act.put, px])
   refine wpAnyH_ready (rs := [6]) (by kernel_rfl) (by simp) ?_
   refine AllReadyH.cons (by simp only [gx]; rfl) (fun K hK => ?_) AllReadyH.nil
   refine step_own (by rfl) (.tmp 133) (.tmp 137) 67 98 5 40 (.agg #[.int .i64 0, .int .i64 0, .int .i64 0, .int .i64 0, .int .i64 0]) (by rfl) Tryz.underlying67 Tryz.info98 rfl (by omega) w2.heap.size (.slice none 0 0) 0 [] (by rfl) (World.ownsRow_nil _ _ _ _) ⟨g, 0, none⟩ t.news.length cv ((nwI t.news).map (Value.int .i64)) (by rfl) HL1.out (fun j u hu => cell_fr ((Fr.refl NoB w2).drew.alloc _) (KEY1.out j u hu) (fun h => h)) (nw_one _) HKO1.out (by omega) (((Fr.refl NoB w2).drew.alloc _).size) ?_
   intro v1 w3 hv1 hfr;have hfrA := (((Fr.refl NoB w2).drew.alloc _)).trans (hfr.mono (fun i _ h => by cases h))
   have HFR1 := zh hfrA; clear hfrA;have HFR0 := zh hfr; clear hfr
   have HV1 := zh hv1; clear hv1;refine hK.out _ _ (KEYS.out _ HFR1.out) (fun hHeld => ?_)
   clear hK K;(try simp only [Act.put, px])
   refine wpAnyH_ready (rs := [9]) (by kernel_rfl) (by simp) ?_
   refine AllReadyH.cons (by simp only [gx]; rfl) (fun K hK => ?_) AllReadyH.nil
   refine step_own (by rfl) (.tmp 138) (.tmp 140) 67 98 5 40 (.agg #[.int .i64 0, .int .i64 0, .int .i64 0, .int .i64 0, .int .i64 0]) (by rfl) Tryz.underlying67 Tryz.info98 rfl (by omega) w2.heap.size v1 (0 + t.news.length) _ (by rfl) HV1.out ⟨w2.heap.size, 0, none⟩ 1 1 [.int .i64 x1, .int .i64 x2, .int .i64 x3, .int .i64 x4, .int .i64 x5] (by rfl) (by rfl) (fun j u hu => cell_fr HFR0.out (World.news_of_block (cs := #[.int .i64 x1, .int .i64 x2, .int .i64 x3, .int .i64 x4, .int .i64 x5]) (t := 98) (fr := (0, 0)) (heap_alloc_new w2.drew _) j u hu) (fun h => by cases h)) (by simp [Value.oneCell']) HKO.out (by omega) (HFR1.out.size) ?_
   intro v2 w4 hv2 hfr; obtain ⟨a2, cap2, rfl⟩ := own_slice hv2
   have hfr2 : Fr NoB w2 w4 := Fr.ownB HFR1.out HV1.out (Nat.le_refl _) hfr
   obtain ⟨r42, rf42, HROW, HFIN⟩ := KEY3.out _ w4 hfr2 hv2
   have HFR2 := zh hfr2; clear hfr hfr2 hv2;refine hK.out _ _ (KEYS.out _ HFR2.out) (fun hHeld => ?_)
   clear hK K;(try simp only [Act.put, px])
   (refine tk (v := ?_) 10 (by simp only [gx]; rfl) hHeld (.inl ⟨by rfl, ?_⟩) ?_; rotate_left; (focus (intro w k; (try dsimp only at k); go_simp; all_goals with_reducible rfl)); (try simp only [Act.put, px])); (refine tk (v := ?_) 11 (by simp only [gx]; rfl) hHeld (.inl ⟨by rfl, ?_⟩) ?_; rotate_left; (focus (intro w k; (try dsimp only at k); go_simp; all_goals with_reducible rfl)); (try simp only [Act.put, px]))
   refine wpAnyH_ready (rs := [12]) (by kernel_rfl) (by simp) ?_
   refine AllReadyH.cons (by simp only [gx]; rfl) (fun K hK => ?_) AllReadyH.nil
   go_simp
   refine hK.out _ _ (KEYT.out _ HFR2.out _) (fun hHeld => ?_)
   clear hK K;(try simp only [Act.put, px])
   (refine wpAnyH_done (by kernel_rfl) ?_ _)
   have hfin := HFIN.out
   rw [Nat.zero_add] at hfin;have HFI := zh hfin
   clear hfin HFIN r42 rf42 HROW;go_wp2
   go_ret
   exact HFI.out
  go_simp
  refine hK.out _ _ (KEYS.out _ ((Fr.refl NoB w2).drew.alloc _)) (fun hHeld => ?_)
  clear hK K;(try simp only [Act.put, px])
  refine wpAnyH_ready (rs := [5]) (by kernel_rfl) (by simp) ?_
  refine AllReadyH.cons (by simp only [gx]; rfl) (fun K hK => ?_) AllReadyH.nil
  go_simp
  refine hK.out _ _ (KEYS.out _ ((Fr.refl NoB w2).drew.alloc _)) (fun hHeld => ?_)
  clear hK K;(try simp only [Act.put, px])
  refine wpAnyH_ready (rs := [6]) (by kernel_rfl) (by simp) ?_
  refine AllReadyH.cons (by simp only [gx]; rfl) (fun K hK => ?_) AllReadyH.nil
  refine step_own (by rfl) (.tmp 133) (.tmp 137) 67 98 5 40 (.agg #[.int .i64 0, .int .i64 0, .int .i64 0, .int .i64 0, .int .i64 0]) (by rfl) Tryz.underlying67 Tryz.info98 rfl (by omega) w2.heap.size (.slice none 0 0) 0 [] (by rfl) (World.ownsRow_nil _ _ _ _) ⟨g, 0, none⟩ t.news.length cv ((nwI t.news).map (Value.int .i64)) (by rfl) HL1.out (fun j u hu => cell_fr ((Fr.refl NoB w2).drew.alloc _) (KEY1.out j u hu) (fun h => h)) (nw_one _) HKO1.out (by omega) (((Fr.refl NoB w2).drew.alloc _).size) ?_
  intro v1 w3 hv1 hfr;have hfrA := (((Fr.refl NoB w2).drew.alloc _)).trans (hfr.mono (fun i _ h => by cases h))
  have HFR1 := zh hfrA; clear hfrA;have HFR0 := zh hfr; clear hfr
  have HV1 := zh hv1; clear hv1;refine hK.out _ _ (KEYS.out _ HFR1.out) (fun hHeld => ?_)
  clear hK K;(try simp only [Act.put, px])
  refine wpAnyH_ready (rs := [9]) (by kernel_rfl) (by simp) ?_
  refine AllReadyH.cons (by simp only [gx]; rfl) (fun K hK => ?_) AllReadyH.nil
  refine step_own (by rfl) (.tmp 138) (.tmp 140) 67 98 5 40 (.agg #[.int .i64 0, .int .i64 0, .int .i64 0, .int .i64 0, .int .i64 0]) (by rfl) Tryz.underlying67 Tryz.info98 rfl (by omega) w2.heap.size v1 (0 + t.news.length) _ (by rfl) HV1.out ⟨w2.heap.size, 0, none⟩ 1 1 [.int .i64 x1, .int .i64 x2, .int .i64 x3, .int .i64 x4, .int .i64 x5] (by rfl) (by rfl) (fun j u hu => cell_fr HFR0.out (World.news_of_block (cs := #[.int .i64 x1, .int .i64 x2, .int .i64 x3, .int .i64 x4, .int .i64 x5]) (t := 98) (fr := (0, 0)) (heap_alloc_new w2.drew _) j u hu) (fun h => by cases h)) (by simp [Value.oneCell']) HKO.out (by omega) (HFR1.out.size) ?_
  intro v2 w4 hv2 hfr; obtain ⟨a2, cap2, rfl⟩ := own_slice hv2
  have hfr2 : Fr NoB w2 w4 := Fr.ownB HFR1.out HV1.out (Nat.le_refl _) hfr
  obtain ⟨r42, rf42, HROW, HFIN⟩ := KEY3.out _ w4 hfr2 hv2
  have HFR2 := zh hfr2; clear hfr hfr2 hv2;refine hK.out _ _ (KEYS.out _ HFR2.out) (fun hHeld => ?_)
  clear hK K;(try simp only [Act.put, px])
  (refine tk (v := ?_) 10 (by simp only [gx]; rfl) hHeld (.inl ⟨by rfl, ?_⟩) ?_; rotate_left; (focus (intro w k; (try dsimp only at k); go_simp; all_goals with_reducible rfl)); (try simp only [Act.put, px])); (refine tk (v := ?_) 11 (by simp only [gx]; rfl) hHeld (.inl ⟨by rfl, ?_⟩) ?_; rotate_left; (focus (intro w k; (try dsimp only at k); go_simp; all_goals with_reducible rfl)); (try simp only [Act.put, px]))
  refine wpAnyH_ready (rs := [12]) (by kernel_rfl) (by simp) ?_
  refine AllReadyH.cons (by simp only [gx]; rfl) (fun K hK => ?_) AllReadyH.nil
  go_simp
  refine hK.out _ _ (KEYT.out _ HFR2.out _) (fun hHeld => ?_)
  clear hK K;(try simp only [Act.put, px])
  (refine wpAnyH_done (by kernel_rfl) ?_ _)
  have hfin := HFIN.out
  rw [Nat.zero_add] at hfin;have HFI := zh hfin
  clear hfin HFIN r42 rf42 HROW;go_wp2
  go_ret
  exact HFI.out
theorem TDo_any (y : TIds) (u : Value) (t : Nt.NT) (k a b n pl pb : Int) (m : Nat) (w : World) (hr : Nt.NOk t m) (hm : m ≤ 1000) (h7 : k ≠ 7) (h : TnAt w y u t) : TDoSaid y u t k a b n pl pb w := by
 by_cases h1 : k = 1
 ·subst h1; exact TDo_link y u t a b n pl pb m w hr h
 by_cases h2 : k = 2
 ·subst h2; exact TDo_tick y u t a b n pl pb m w hr hm h
 by_cases h3 : k = 3
 ·subst h3; exact TDo_tell y u t a b n pl pb m w hr h
 by_cases h4 : k = 4
 ·subst h4; exact TDo_hear y u t a b n pl pb m w hr h
 by_cases h5 : k = 5
 ·subst h5; exact TDo_lose y u t a b n pl pb m w hr h
 by_cases h6 : k = 6
 ·subst h6; exact TDo_dbl y u t a b n pl pb m w hr h
 exact TDo_else y u t k a b n pl pb w h1 h2 h3 h4 h5 h6 h7 h
def InRel (xs : List Int) (y : Int) (w : World) (i : Value) (wr : World) : Prop := ∃ k : Nat, k ≤ xs.length ∧ i = .int .i64 k ∧ (∀ j, j < k → xs.getD j 0 ≠ y) ∧ wr = w
theorem RIn_any (base : Nat) (v : Value) (xs : List Int) (y : Int) (w : World) (hl : xs.length ≤ 1000000) (h : Sl w base v xs) :
 Calls Tryz.prog 64 #[v, .int .i64 y] w fun e w' => e = .returned (.bool (decide (y ∈ xs))) ∧ w = w' := by
 obtain ⟨al, c, rfl, j⟩ := ownsRow_rd h
 clear j
 have H := zh h; clear h
 go_enter Tryz.func64, Tryz.ntmps64
 go_wp2
 go_loopw [5] (fun i wr => InRel xs y w i wr) (fun i _ => xs.length - (intOf i).toNat)
 case atStart => exact ⟨0, by omega, rfl, fun j h => by omega, rfl⟩
 case round =>
  obtain ⟨k, hk, rfl, hne, rfl⟩ := hrel
  have HNE := zh hne; clear hne;by_cases hkn : k < xs.length
  ·obtain ⟨g, rfl, cg⟩ := Sl.at H.out hkn
   have hmem : xs.getD k 0 ∈ xs := by simp [hkn]
   generalize hz : xs.getD k 0 = z at *;by_cases he : z = y
   ·have heb : (z == y) = true := by simp [he]
    have hm : decide (y ∈ xs) = true := by rw [← he]; simpa using hmem
    clear hmem hz he;have HM := zh hm; clear hm
    go_wp2;go_ret
    exact ⟨ret_bool HM.out.symm, rfl⟩
   have heb : (z == y) = false := by simpa using he
   have hne : ∀ j, j < k + 1 → xs.getD j 0 ≠ y := fun j hj => by
    by_cases e : j = k
    ·rw [e, hz]; exact he
    exact HNE.out j (by omega)
   clear hmem hz he HNE;have HNE := zh hne; clear hne
   go_wp2;go_roundw
   case rel => exact ⟨k + 1, by omega, by go_num, HNE.out, rfl⟩
   case measure => simp [intOf]; omega
  have hm : decide (y ∈ xs) = false := by
   refine decide_eq_false (fun hm => ?_)
   obtain ⟨j, hj, e⟩ := List.mem_iff_getElem.1 hm
   exact HNE.out j (by omega) (by simp [hj, e])
  clear HNE;have HM := zh hm; clear hm
  go_wp2;go_ret
  exact ⟨ret_bool HM.out.symm, rfl⟩
end Go.Proofs.YtffoilacaffdgaaGreatDoor
