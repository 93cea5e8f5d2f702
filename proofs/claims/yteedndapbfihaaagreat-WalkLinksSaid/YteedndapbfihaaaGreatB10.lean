/- Walks over package net: link, tell, tick. -/
import Derived.Test.YteedndapbfihaaaGreatB9
import Derived.Deep.RegionLaw
import Derived.Lib.SliceRun
namespace Go.Proofs.YteedndapbfihaaaGreat
open Go.RowKit Go.Deep

theorem NtDo.none {x : Ids} {v : Value} {t : Nt.NT} {c : Int} {w w' : World} (h : NtAt w' x v t) (hf : Fr (Ft x v) w w') : NtDo x v t c w (.returned (.int .i64 c)) w' := ⟨v, rfl, h, hf, fun _ hg => .inl hg⟩
theorem NtAt.own_off {w : World} {x : Ids} {v u : Value} {t : Nt.NT} {base n size : Nat} {e : TypeId} {xs : List Value} (h : NtAt w x v t) (k : w.ownsRow base e size u n xs) (e1 : 80 ≠ e) (e2 : 108 ≠ e) (e3 : 136 ≠ e) (e4 : 112 ≠ e) : ∀ g, u.ownBlock = some g → ¬ Ft x v g := by
  intro g hg hf
  rcases hf with rfl | rfl | ⟨j, hj, rfl⟩ | hf
  · exact row_own_apart h.net k e1 hg
  · exact row_own_apart h.links k e2 hg
  · exact row_own_apart (h.node j hj) k e3 hg
  · exact own_apart h.news k e4 g hf hg
set_option maxHeartbeats 2000000 in
theorem Nlink_any (x : Ids) (v : Value) (t : Nt.NT) (a b c : Int) (m : Nat) (w : World) (hr : Nt.NOk t m) (h : NtAt w x v t) :
    Calls Tryz.prog 87 #[.pointer (some ⟨x.b, 0, none⟩), .int .i64 a, .int .i64 b, .int .i64 c] w (NtDo x v (Nt.linkT t a b c).1 (Nt.linkT t a b c).2 w) := by
  have c0 := h.c0
  have H := Lib.hid h; clear h; have HR := Lib.hid hr; clear hr
  by_cases hb : Nt.setBad a b c
  · have e : Nt.linkT t a b c = (t, 1) := by rw [Nt.linkT, if_pos hb]
    rw [e]
    clear e
    unfold Nt.setBad at hb
    have HB := Lib.hid hb; clear hb
    go_enter Tryz.func87, Tryz.ntmps87
    go_wp2_with fail
    refine (Set_no x.L a b c _ HB.out).mono ?_
    rintro e w' ⟨rfl, rfl⟩
    go_wp2
    go_ret
    exact NtDo.none H.out (Fr.refl _ _)
  · have e : Nt.linkT t a b c = (Nt.linkOk t a.toNat b.toNat c, 0) := by rw [Nt.linkT, if_neg hb]
    rw [e]
    clear e
    have hb := Classical.not_not.1 hb
    obtain ⟨p0, p1, q0, q1, hne, r0, r1⟩ := hb
    obtain ⟨p, rfl⟩ := Int.eq_ofNat_of_zero_le p0
    obtain ⟨q, rfl⟩ := Int.eq_ofNat_of_zero_le q0
    rw [Int.toNat_natCast, Int.toNat_natCast]
    have hp : p < 6 := by omega
    have hq : q < 6 := by omega
    have hpq : q ≠ p := by omega
    clear hne p0 q0
    have HPQ := Lib.hid hpq; clear hpq
    go_enter Tryz.func87, Tryz.ntmps87
    go_wp2_with fail
    refine (Set_ok x.L p q c t.C _ hp hq (fun e => HPQ.out e.symm) r0 r1 H.out.links).mono ?_
    rintro e w1 ⟨rfl, hc, hf⟩
    have h1 := H.out.setL hc hf
    have hf1 : Fr (Ft x v) w w1 := hf.mono (fun i _ h => .inr (.inl h))
    clear c0 hc hf H
    have c1 := h1.cN hp
    have c2 := h1.cN hq
    have H := Lib.hid h1; clear h1; have HF := Lib.hid hf1; clear hf1
    go_wp2_with fail
    refine (Link_any (x.N p) q c (t.N p) _ (HR.out.run p hp).ok (H.out.node p hp)).mono ?_
    rintro e w2 ⟨rfl, hn, hf⟩
    have h2 := H.out.setN hp hn hf
    have hf2 : Fr (Ft x v) w w2 := HF.out.trans (hf.mono (fun i _ h => .inr (.inr (.inl ⟨p, hp, h⟩))))
    have hq2 : NAt w2 (x.N q) 136 (t.N q) := by
      have h3 : NAt w2 (x.N q) 136 (Nt.upN t.N p (Nd.linkC (t.N p) q c).1 q) := h2.node q hq
      rw [Nt.upN_other _ _ _ _ HPQ.out] at h3
      exact h3
    clear c1 c2 hn hf H HF
    have c2 := h2.cN hq
    have H := Lib.hid h2; clear h2; have HF := Lib.hid hf2; clear hf2; have HQ := Lib.hid hq2; clear hq2
    go_wp2_with fail
    refine (Link_any (x.N q) p c (t.N q) _ (HR.out.run q hq).ok HQ.out).mono ?_
    rintro e w3 ⟨rfl, hn, hf⟩
    have h3 := H.out.setN hq hn hf
    have hf3 : Fr (Ft x v) w w3 := HF.out.trans (hf.mono (fun i _ h => .inr (.inr (.inl ⟨q, hq, h⟩))))
    clear c2 hn hf H HF
    have H := Lib.hid h3; clear h3; have HF := Lib.hid hf3; clear hf3
    go_wp2
    go_ret
    exact NtDo.none H.out HF.out
set_option maxRecDepth 100000 in
set_option maxHeartbeats 4000000 in
theorem Ntell_any (x : Ids) (v : Value) (t : Nt.NT) (a b : Int) (m : Nat) (w : World) (hr : Nt.NOk t m) (h : NtAt w x v t) :
    Calls Tryz.prog 89 #[.pointer (some ⟨x.b, 0, none⟩), .int .i64 a, .int .i64 b] w (NtDo x v (Nt.tellT t a b).1 (Nt.tellT t a b).2 w) := by
  by_cases ha : Nt.isN a
  · by_cases hb : Nt.isN b
    · obtain ⟨p, rfl⟩ := Int.eq_ofNat_of_zero_le ha.1
      obtain ⟨q, rfl⟩ := Int.eq_ofNat_of_zero_le hb.1
      have hp : p < 6 := by have := ha.2; omega
      have hq : q < 6 := by have := hb.2; omega
      have hab : ¬ ¬ (Nt.isN p ∧ Nt.isN q) := fun h => h ⟨ha, hb⟩
      clear ha hb
      have c0 := h.c0
      have H := Lib.hid h; clear h; have HR := Lib.hid hr; clear hr
      by_cases hz : t.C p q = 0
      · have e : Nt.tellT t p q = (t, 6) := by rw [Nt.tellT, if_neg hab, Int.toNat_natCast, Int.toNat_natCast, if_pos hz]
        rw [e]
        have hzb : (t.C p q == 0) = true := by simp [hz]
        clear e hab hz
        go_enter Tryz.func89, Tryz.ntmps89
        go_wp2_with (first | (go_at_call 43; refine (Node_yes _ _ (by omega) (by omega)).mono ?_; rintro e w' ⟨rfl, rfl⟩) | (go_at_call 37; refine (Cost_yes _ _ _ t.C _ hp hq H.out.links).mono ?_; rintro e w' ⟨rfl, rfl⟩))
        go_ret
        exact NtDo.none H.out (Fr.refl _ _)
      · have hzb : (t.C p q == 0) = false := by simpa using hz
        obtain ⟨av, cv, rfl, _, _, _, hncv, hcv, _⟩ := ownsRow_rd H.out.news
        clear hncv hcv
        have c1 := H.out.cN hp
        have hl40 := HR.out.len
        have hsum := IntWalk.i64_in ((t.news.length : Int) + 6) (by omega)
        by_cases hl : 40 < t.news.length + 6
        · have e : Nt.tellT t p q = (t, 9) := by rw [Nt.tellT, if_neg hab, Int.toNat_natCast, Int.toNat_natCast, if_neg hz, if_pos hl]
          rw [e]
          clear e hab hz
          have hlb : decide ((40 : Int) < (t.news.length : Int) + 6) = true := by simp; omega
          have HL40 := Lib.hid hl40; clear hl40
          clear hl
          go_enter Tryz.func89, Tryz.ntmps89
          go_wp2_with (first | (go_at_call 43; refine (Node_yes _ _ (by omega) (by omega)).mono ?_; rintro e w' ⟨rfl, rfl⟩) | (go_at_call 37; refine (Cost_yes _ _ _ t.C _ hp hq H.out.links).mono ?_; rintro e w' ⟨rfl, rfl⟩))
          refine (Tell_any (x.N p) q (t.N p) _ (H.out.node p hp)).mono ?_
          rintro e w1 ⟨v1, rfl, hv1, hf⟩
          have h1 := H.out.keep0 hf
          obtain ⟨a1, cap1, rfl, _⟩ := ownsRow_rd hv1
          have c7 := h1.c7
          have hf1 : Fr (Ft x (.slice av t.news.length cv)) w w1 := hf.mono (fun _ _ h => h.elim)
          clear c0 c1 hv1 hf H
          have H := Lib.hid h1; clear h1; have HF := Lib.hid hf1; clear hf1
          go_wp2
          go_ret
          exact NtDo.none H.out HF.out
        · have e : Nt.tellT t p q = ({ t with news := t.news ++ Nt.tellW (t.N p) q 6 }, 0) := by rw [Nt.tellT, if_neg hab, Int.toNat_natCast, Int.toNat_natCast, if_neg hz, if_neg hl]
          rw [e]
          clear e hab hz
          have hlb : decide ((40 : Int) < (t.news.length : Int) + 6) = false := by simp; omega
          have HL40 := Lib.hid hl40; clear hl40
          clear hl
          go_enter Tryz.func89, Tryz.ntmps89
          go_wp2_with (first | (go_at_call 43; refine (Node_yes _ _ (by omega) (by omega)).mono ?_; rintro e w' ⟨rfl, rfl⟩) | (go_at_call 37; refine (Cost_yes _ _ _ t.C _ hp hq H.out.links).mono ?_; rintro e w' ⟨rfl, rfl⟩))
          refine (Tell_any (x.N p) q (t.N p) _ (H.out.node p hp)).mono ?_
          rintro e w1 ⟨v1, rfl, hv1, hf⟩
          have h1 := H.out.keep0 hf
          have hz1 := hf.size
          have hg1 : ∃ g1 c1, v1 = .slice (some ⟨g1, 0, none⟩) 6 c1 := by
            rcases hv1.2 with ⟨_, h0⟩ | ⟨g, cap, cur, h2, _⟩
            · omega
            · exact ⟨g, cap, h2⟩
          obtain ⟨g1, cap1, rfl⟩ := hg1
          have c7 := h1.c7
          have hf1 : Fr (Ft x (.slice av t.news.length cv)) w w1 := hf.mono (fun _ _ h => h.elim)
          clear c0 c1 hf H
          have H := Lib.hid h1; clear h1; have HF := Lib.hid hf1; clear hf1; have HV1 := Lib.hid hv1; clear hv1; have HZ1 := Lib.hid hz1; clear hz1
          go_wp2_with (at_builtin; go_loud (refine app_lies (by rfl) (.tmp 45) (.tmp 46) 36 112 5 40 (.agg #[.int .i64 0, .int .i64 0, .int .i64 0, .int .i64 0, .int .i64 0]) (by rfl) Tryz.underlying36 Tryz.info112 rfl (by omega) 0 (.slice av t.news.length cv) t.news.length _ (by rfl) H.out.news ⟨g1, 0, none⟩ 6 cap1 ((Nd.tellL (t.N p) q 6).map (Value.int .i64)) (by rfl) (by rw [List.length_map, Nd.tellL_len]) (fun j u hu => news_rd HV1.out j u g1 rfl hu) (by intro u hu; obtain ⟨y, _, rfl⟩ := List.mem_map.1 hu; rfl) (by omega) (by have := HL40.out; omega) (by omega) (by omega) ?_))
          intro g cap w2 h2 hf hlie
          have hv2 : SlN w2 0 (.slice (some ⟨g, 0, none⟩) (t.news ++ Nt.tellW (t.N p) q 6).length cap) (t.news ++ Nt.tellW (t.N p) q 6).length (nwI (t.news ++ Nt.tellW (t.N p) q 6)) := by
            rw [nwI_app, ← nwI_tell, List.length_append, Nt.tellW_len]
            unfold SlN
            rw [List.map_append]
            exact h2
          have h3 := H.out.setV hv2 hf
          have q7 := cell_fr hf c7 H.out.bv
          have qf : w2.frozen? ⟨x.b, 7, none⟩ = false := World.rowIs.frozen (hf.row H.out.net H.out.bv) 7
          have hf3 : Fr (Ft x (.slice av t.news.length cv)) w (w2.setCell ⟨x.b, 7, none⟩ (.slice (some ⟨g, 0, none⟩) (t.news ++ Nt.tellW (t.N p) q 6).length cap)) :=
            (HF.out.trans (hf.mono (fun _ _ h => .inr (.inr (.inr h))))).setCell (p := ⟨x.b, 7, none⟩) (.inl (.inl rfl)) _
          have hll : t.news.length + 6 = (t.news ++ Nt.tellW (t.N p) q 6).length := by rw [List.length_append, Nt.tellW_len]
          have hlie' : ∀ g', (Value.slice (some ⟨g, 0, none⟩) (t.news ++ Nt.tellW (t.N p) q 6).length cap).ownBlock = some g' → (Value.slice av t.news.length cv).ownBlock = some g' ∨ w.heap.size ≤ g' := by
            intro g' hg'
            simp only [Value.ownBlock, Option.some.injEq] at hg'
            subst hg'
            rcases hlie with h | h
            · exact .inl h
            · exact .inr (by have := HZ1.out; omega)
          rw [hll]
          generalize (t.news ++ Nt.tellW (t.N p) q 6).length = ln at *
          clear c7 h2 hv2 hf hlie hll H HF HV1
          have H := Lib.hid h3; clear h3; have HF := Lib.hid hf3; clear hf3; have HLI := Lib.hid hlie'; clear hlie'
          go_wp2
          go_ret
          exact ⟨_, rfl, H.out, HF.out, HLI.out⟩
    · have e : Nt.tellT t a b = (t, 1) := by rw [Nt.tellT, if_pos (fun h => hb h.2)]
      rw [e]
      clear e
      have H := Lib.hid h; clear h; have HR := Lib.hid hr; clear hr; have HB := Lib.hid hb; clear hb
      obtain ⟨a0, a1⟩ := ha
      go_enter Tryz.func89, Tryz.ntmps89
      go_wp2_with fail
      refine (Node_yes _ _ a0 a1).mono ?_; rintro e w' ⟨rfl, rfl⟩
      go_wp2_with fail
      refine (Node_no _ _ HB.out).mono ?_; rintro e w' ⟨rfl, rfl⟩
      go_wp2
      go_ret
      exact NtDo.none H.out (Fr.refl _ _)
  · have e : Nt.tellT t a b = (t, 1) := by rw [Nt.tellT, if_pos (fun h => ha h.1)]
    rw [e]
    clear e
    have H := Lib.hid h; clear h; have HR := Lib.hid hr; clear hr; have HA := Lib.hid ha; clear ha
    go_enter Tryz.func89, Tryz.ntmps89
    go_wp2_with fail
    refine (Node_no _ _ HA.out).mono ?_; rintro e w' ⟨rfl, rfl⟩
    go_wp2
    go_ret
    exact NtDo.none H.out (Fr.refl _ _)
def TickRel (x : Ids) (v0 : Value) (a : Int) (bs : List Nat) (r : Nt.NT × Int) (m : Nat) (lv : Value) (w : World) (base : Nat) (i : Value) (wr : World) : Prop :=
  ∃ (j : Nat) (t : Nt.NT) (v : Value), j ≤ bs.length ∧ i = .int .i64 j ∧ Nt.NOk t m ∧ Nt.tellsT t a (bs.drop j) = r ∧ NtAt wr x v t ∧ Fr (Ft x v0) w wr ∧ (∀ g, v.ownBlock = some g → v0.ownBlock = some g ∨ w.heap.size ≤ g) ∧ Sl wr base lv (ints bs)
theorem Ft.grow {x : Ids} {v v0 : Value} {n i : Nat} (h : ∀ g, v.ownBlock = some g → v0.ownBlock = some g ∨ n ≤ g) (hi : Ft x v i) : Ft x v0 i ∨ n ≤ i := by
  rcases hi with hi | hi | hi | hi
  · exact .inl (.inl hi)
  · exact .inl (.inr (.inl hi))
  · exact .inl (.inr (.inr (.inl hi)))
  · rcases h i hi with h | h
    · exact .inl (.inr (.inr (.inr h)))
    · exact .inr h
theorem Fr.grow {x : Ids} {v v0 : Value} {w wr w' : World} (h1 : Fr (Ft x v0) w wr) (h : ∀ g, v.ownBlock = some g → v0.ownBlock = some g ∨ w.heap.size ≤ g) (h2 : Fr (Ft x v) wr w') : Fr (Ft x v0) w w' :=
  h1.trans' h2 (fun i hi h' => by rcases Ft.grow h h' with h | h; exact h; omega)
theorem grow_trans {v v' v0 : Value} {n m : Nat} (h : ∀ g, v.ownBlock = some g → v0.ownBlock = some g ∨ n ≤ g) (k : ∀ g, v'.ownBlock = some g → v.ownBlock = some g ∨ m ≤ g) (hm : n ≤ m) : ∀ g, v'.ownBlock = some g → v0.ownBlock = some g ∨ n ≤ g := by
  intro g hg
  rcases k g hg with hg | hg
  · exact h g hg
  · exact .inr (by omega)
set_option maxRecDepth 100000 in
set_option maxHeartbeats 4000000 in
theorem Ntick_any (x : Ids) (v : Value) (t : Nt.NT) (a : Int) (m : Nat) (w : World) (hr : Nt.NOk t m) (hm : m ≤ 1000) (h : NtAt w x v t) :
    Calls Tryz.prog 88 #[.pointer (some ⟨x.b, 0, none⟩), .int .i64 a] w (NtDo x v (Nt.tickT t a).1 (Nt.tickT t a).2 w) := by
  by_cases ha : Nt.isN a
  · obtain ⟨p, rfl⟩ := Int.eq_ofNat_of_zero_le ha.1
    have hp : p < 6 := by have := ha.2; omega
    have e : Nt.tickT t p = Nt.tellsT (Nt.tickOk t p) p (ofL t.C p 6) := by rw [Nt.tickT, if_neg (fun h => h ha), Int.toNat_natCast]
    have hok := hr.tickOk hp
    rw [e]
    clear e ha
    have c1 := h.cN hp
    have H := Lib.hid h; clear h; have HR := Lib.hid hr; clear hr; have HOK := Lib.hid hok; clear hok
    go_enter Tryz.func88, Tryz.ntmps88
    go_wp2_with fail
    refine (Node_yes _ _ (by omega) (by omega)).mono ?_; rintro e w' ⟨rfl, rfl⟩
    go_wp2_with fail
    refine (Tick_any (x.N p) (t.N p) _ (HR.out.run p hp).ok.me (HR.out.run p hp).lo (by have := (HR.out.run p hp).hi; omega) (H.out.node p hp)).mono ?_
    rintro e w1 ⟨rfl, hn, hf⟩
    have h1 : NtAt w1 x v (Nt.tickOk t p) := H.out.setN hp hn hf
    have hf1 : Fr (Ft x v) w w1 := hf.mono (fun i _ h => .inr (.inr (.inl ⟨p, hp, h⟩)))
    clear c1 hn hf H
    have c0 := h1.c0
    have H := Lib.hid h1; clear h1; have HF := Lib.hid hf1; clear hf1
    go_wp2_with fail
    refine (Of_yes x.L p t.C _ hp H.out.links).mono ?_
    rintro e w2 ⟨lv, rfl, hl, hf⟩
    have h2 := H.out.keep0 hf
    have hf2 : Fr (Ft x v) w w2 := HF.out.trans (hf.mono (fun _ _ h => h.elim))
    have hb6 := ofL_le t.C p 6
    generalize ofL t.C p 6 = bs at *
    obtain ⟨al, cl, rfl, _⟩ := ownsRow_rd hl
    have hll : (ints bs).length = bs.length := by simp [ints]
    rw [hll]
    clear c0 hf H HF
    have H := Lib.hid h2; clear h2; have HF := Lib.hid hf2; clear hf2; have HL := Lib.hid hl; clear hl; have HLL := Lib.hid hll; clear hll
    go_wp2
    go_loopw [25] (fun i wr => TickRel x v p bs (Nt.tellsT (Nt.tickOk t p) p bs) (m + 1) (.slice al bs.length cl) w w1.heap.size i wr) (fun i _ => bs.length - (intOf i).toNat)
    case atStart => exact ⟨0, _, _, by omega, rfl, HOK.out, rfl, H.out, HF.out, fun g hg => .inl hg, by have := HL.out; rw [HLL.out] at this; exact this⟩
    case round =>
      clear H HF HL HOK HR
      obtain ⟨j, s, u, hj, rfl, hok, hres, h1, hf, hg, hl⟩ := hrel
      have HOK := Lib.hid hok; clear hok; have HRES := Lib.hid hres; clear hres; have H := Lib.hid h1; clear h1; have HF := Lib.hid hf; clear hf; have HG := Lib.hid hg; clear hg; have HL := Lib.hid hl; clear hl
      by_cases hjn : j < bs.length
      · obtain ⟨g, rfl, cg⟩ := Sl.at HL.out (k := j) (by rw [HLL.out]; exact hjn)
        have hb : (ints bs).getD j 0 = (bs[j] : Nat) := by simp [ints, hjn]
        rw [hb] at cg
        have hd : bs.drop j = bs[j] :: bs.drop (j + 1) := List.drop_eq_getElem_cons hjn
        have hr2 := HRES.out
        rw [hd, Nt.tellsT] at hr2
        generalize bs[j] = b at *
        clear hb hd
        have HR2 := Lib.hid hr2; clear hr2
        go_wp2_with fail
        refine (Ntell_any x u s p b (m + 1) _ HOK.out H.out).mono ?_
        rintro e w3 ⟨v', rfl, h2, hf, hg⟩
        have hok2 := HOK.out.tellT p b
        have hf2 := HF.out.grow HG.out hf
        have hg2 := grow_trans HG.out hg HF.out.size
        have hl2 : Sl w3 w1.heap.size (.slice (some ⟨g, 0, none⟩) bs.length cl) (ints bs) := own_keep HL.out hf (H.out.own_off HL.out (by decide) (by decide) (by decide) (by decide))
        clear cg hf hg H HF HG HL HOK
        by_cases hc : (Nt.tellT s p b).2 = 0
        · have hr3 := HR2.out
          rw [if_pos hc] at hr3
          rw [hc]
          clear hc HR2
          have HOK := Lib.hid hok2; clear hok2; have HF := Lib.hid hf2; clear hf2; have HG := Lib.hid hg2; clear hg2; have HL := Lib.hid hl2; clear hl2; have H := Lib.hid h2; clear h2; have HR3 := Lib.hid hr3; clear hr3
          go_wp2
          go_roundw
          case rel => exact ⟨j + 1, _, _, by omega, by go_num, HOK.out, HR3.out, H.out, HF.out, HG.out, HL.out⟩
          case measure => simp [intOf]; omega
        · have hr3 := HR2.out
          rw [if_neg hc] at hr3
          have hcb : ((Nt.tellT s p b).2 != 0) = true := by simp [hc]
          clear hc HR2
          have HOK := Lib.hid hok2; clear hok2; have HF := Lib.hid hf2; clear hf2; have HG := Lib.hid hg2; clear hg2; have HL := Lib.hid hl2; clear hl2; have H := Lib.hid h2; clear h2; have HR3 := Lib.hid hr3; clear hr3
          go_wp2
          go_ret
          rw [← HR3.out]
          exact ⟨_, rfl, H.out, HF.out, HG.out⟩
      · have hr2 := HRES.out
        rw [List.drop_of_length_le (by omega), Nt.tellsT] at hr2
        clear HRES
        have HR2 := Lib.hid hr2; clear hr2
        go_wp2
        go_ret
        rw [← HR2.out]
        exact ⟨_, rfl, H.out, HF.out, HG.out⟩
  · have e : Nt.tickT t a = (t, 1) := by rw [Nt.tickT, if_pos ha]
    rw [e]
    clear e
    have H := Lib.hid h; clear h; have HR := Lib.hid hr; clear hr; have HA := Lib.hid ha; clear ha
    go_enter Tryz.func88, Tryz.ntmps88
    go_wp2_with fail
    refine (Node_no _ _ HA.out).mono ?_; rintro e w' ⟨rfl, rfl⟩
    go_wp2
    go_ret
    exact NtDo.none H.out (Fr.refl _ _)
end Go.Proofs.YteedndapbfihaaaGreat
/- Walks: slices.Delete of one of the news; take. -/
namespace Go.Proofs.YteedndapbfihaaaGreat
open Go.RowKit Go.Deep

theorem run_clear_news (w : World) (ty : TypeId) (b o c : Nat) (hc : ∀ j, j < 5 → (w.cell? ⟨b, o + j, none⟩).isSome = true) (hf : ∀ j, j < 5 → w.frozen? ⟨b, o + j, none⟩ = false) :
    (Builtin.clear_ #[36] ty #[.slice (some ⟨b, o, none⟩) 1 c]).run Tryz.prog w = .ok (.tuple #[]) (w.setCells b o [.int .i64 0, .int .i64 0, .int .i64 0, .int .i64 0, .int .i64 0]) := by
  have hv : ∀ w, (zeroValue 112).run Tryz.prog w = .ok (.agg #[.int .i64 0, .int .i64 0, .int .i64 0, .int .i64 0, .int .i64 0]) w := by intro w; kernel_rfl
  have hst := run_storeCells_cells (P := Tryz.prog) b o [.int .i64 0, .int .i64 0, .int .i64 0, .int .i64 0, .int .i64 0] 0 w (by simpa using hc) (by simpa using hf) (by intro v hv'; simp at hv'; subst hv'; rfl)
  simp only [Nat.add_zero] at hst
  have hzc : (Builtin.zeroCells (Value.agg #[.int .i64 0, .int .i64 0, .int .i64 0, .int .i64 0, .int .i64 0]).cells 1).toList = [.int .i64 0, .int .i64 0, .int .i64 0, .int .i64 0, .int .i64 0] := by kernel_rfl
  have hst' : Sem.run Tryz.prog (storeCells ⟨b, o, none⟩ [.int .i64 0, .int .i64 0, .int .i64 0, .int .i64 0, .int .i64 0]) w = .ok () (w.setCells b o [.int .i64 0, .int .i64 0, .int .i64 0, .int .i64 0, .int .i64 0]) := hst
  simp [Builtin.clear_, run_underlying Tryz.underlying36, hv, hzc]
  rw [hst']
  rfl
def DelPost (g cap n : Nat) (xs : List Int) (i : Nat) (w : World) (e : Ending) (w' : World) : Prop :=
  e = .returned (.slice (some ⟨g, 0, none⟩) (n - 1) cap) ∧ SlN w' 0 (.slice (some ⟨g, 0, none⟩) (n - 1) cap) (n - 1) (xs.take (i * 5) ++ xs.drop ((i + 1) * 5)) ∧ Fr (OneB g) w w'
set_option maxRecDepth 100000 in
set_option maxHeartbeats 4000000 in
theorem Delete_any (g cap n i : Nat) (xs : List Int) (w : World) (hi : i < n) (hn : n ≤ 1000) (h : SlN w 0 (.slice (some ⟨g, 0, none⟩) n cap) n xs) :
    Calls Tryz.prog 108 #[.slice (some ⟨g, 0, none⟩) n cap, .int .i64 i, .int .i64 (i + 1 : Nat)] w (DelPost g cap n xs i w) := by
  obtain ⟨hnc, hcm, _, f, hrow, hx⟩ := own_row h
  have hlen := h.1
  have hcm' : cap ≤ 9223372036854775807 := by unfold maxLen at hcm; omega
  clear h hcm
  obtain ⟨m, hm⟩ : ∃ m, m = n - (i + 1) := ⟨_, rfl⟩
  obtain ⟨news, hnews⟩ : ∃ news, news = (xs.map (Value.int .i64)).drop ((i + 1) * 5) := ⟨_, rfl⟩
  have hnl : news.length = m * 5 := by rw [hnews, List.length_drop, hlen]; omega
  have hget : ∀ t, t < m * 5 → news[t]? = some (f ((i + 1) * 5 + t)) := by
    intro t ht
    rw [hnews, List.getElem?_drop, hx _ (by omega)]
  have h1c : ∀ u ∈ news, u.oneCell' = true := by
    intro u hu
    rw [hnews] at hu
    obtain ⟨y, _, rfl⟩ := List.mem_map.1 (List.mem_of_mem_drop hu)
    rfl
  obtain ⟨A, hA, hsrc⟩ : ∃ A : Addr, (if cap = i + 1 then some (⟨g, 0, none⟩ : Addr) else some ⟨g, (i + 1) * 5, none⟩) = some A ∧ Hid (∀ t u, news[t]? = some u → w.drew.cell? (A.add t) = some u) := by
    by_cases hci : cap = i + 1
    · refine ⟨⟨g, 0, none⟩, by simp [hci], fun t u hu => ?_⟩
      have h0 : news.length = 0 := by rw [hnl]; omega
      rw [List.length_eq_zero_iff.1 h0] at hu
      simp at hu
    · refine ⟨⟨g, (i + 1) * 5, none⟩, by simp [hci], fun t u hu => ?_⟩
      have ht : t < m * 5 := by
        have := (List.getElem?_eq_some_iff.1 hu).1
        rwa [hnl] at this
      rw [hget t ht] at hu
      have := World.rowIs.cell (World.rowIs.drew hrow) (i := (i + 1) * 5 + t) (by omega)
      rw [Option.some.inj hu] at this
      have ea : (⟨g, (i + 1) * 5, none⟩ : Addr).add t = ⟨g, (i + 1) * 5 + t, none⟩ := by unfold Addr.add; split <;> simp_all
      rw [ea]; exact this
  have hspare : Hid (∀ j, j < news.length → (w.drew.cell? ⟨g, 0 + i * 5 + j, none⟩).isSome = true ∧ w.drew.frozen? ⟨g, 0 + i * 5 + j, none⟩ = false) := by
    intro j hj
    rw [hnl] at hj
    have := World.rowIs.cell (World.rowIs.drew hrow) (i := 0 + i * 5 + j) (by omega)
    exact ⟨by rw [this]; rfl, World.rowIs.frozen (World.rowIs.drew hrow) _⟩
  obtain ⟨W1, hW1⟩ : ∃ W1, W1 = w.drew.setCells g (0 + i * 5) news := ⟨_, rfl⟩
  have hrow1 := rowIs_setCells news (0 + i * 5) _ _ (World.rowIs.drew hrow)
  rw [← hW1] at hrow1
  have hf1 : Fr (OneB g) w W1 := by rw [hW1]; exact Fr.setCells (S := OneB g) (show OneB g g from rfl) _ _ (Fr.refl _ _).drew
  have hcl : ∀ ty, (Builtin.clear_ #[36] ty #[.slice (some ⟨g, (i + m) * 5, none⟩) (n - (i + m)) (cap - (i + m))]).run Tryz.prog W1 = .ok (.tuple #[]) (W1.setCells g ((i + m) * 5) [.int .i64 0, .int .i64 0, .int .i64 0, .int .i64 0, .int .i64 0]) := by
    intro ty
    rw [show n - (i + m) = 1 from by omega]
    exact run_clear_news W1 ty g _ _ (fun j hj => by rw [World.rowIs.cell hrow1 (i := (i + m) * 5 + j) (by omega)]; rfl) (fun j hj => World.rowIs.frozen hrow1 _)
  have hrow2 := rowIs_setCells [.int .i64 0, .int .i64 0, .int .i64 0, .int .i64 0, .int .i64 0] ((i + m) * 5) _ _ hrow1
  have hf2 : Fr (OneB g) w (W1.setCells g ((i + m) * 5) [.int .i64 0, .int .i64 0, .int .i64 0, .int .i64 0, .int .i64 0]) := Fr.setCells (S := OneB g) (show OneB g g from rfl) _ _ hf1
  have hfin : SlN (W1.setCells g ((i + m) * 5) [.int .i64 0, .int .i64 0, .int .i64 0, .int .i64 0, .int .i64 0]) 0 (.slice (some ⟨g, 0, none⟩) (n - 1) cap) (n - 1) (xs.take (i * 5) ++ xs.drop ((i + 1) * 5)) := by
    have hxl : xs.length = n * 5 := by simpa using hlen
    refine row_own hrow2 (Nat.zero_le _) (by omega) (by unfold maxLen; omega) (by rw [List.length_map, List.length_append, List.length_take, List.length_drop]; omega) (fun k hk => ?_)
    rw [if_neg (by omega)]
    by_cases hki : k < i * 5
    · rw [if_neg (by omega), List.map_append, List.getElem?_append_left (by simp; omega), List.map_take, List.getElem?_take, if_pos hki, hx k (by omega)]
    · rw [if_pos (by omega), List.map_append, List.getElem?_append_right (by simp; omega), List.map_drop, ← hnews, List.length_map, List.length_take, Nat.min_eq_left (by omega), hget _ (by omega)]
      have := hget (k - (0 + i * 5)) (by omega)
      rw [List.getD_eq_getElem?_getD, this, show (i + 1) * 5 + (k - i * 5) = (i + 1) * 5 + (k - (0 + i * 5)) from by omega]
      rfl
  have hW : Hid (W1 = w.drew.setCells g (0 + i * 5) news) := hW1
  have hic : i ≤ cap := by omega
  have hjc : i + 1 ≤ cap := by omega
  have him : i + m = n - 1 := by omega
  obtain ⟨i0, hi0, hz0, hz1, hz2⟩ := info_parts Tryz.info112
  have HI0 := Lib.hid hi0; clear hi0
  have HNL := Lib.hid hnl; have HSP := hspare
  have H1C := Lib.hid h1c; clear h1c; have HFIN := Lib.hid hfin; clear hfin; have HF2 := Lib.hid hf2; clear hf2; have HIM := Lib.hid him; clear him
  clear hW1 hrow1 hrow2 hget hnews hnl hx hrow hlen hspare hf1
  have hj1 : (i : Int) + 1 ≤ (n : Int) := by omega
  have hj0 : (0 : Int) ≤ (i : Int) + 1 := by omega
  subst hm
  go_enter Tryz.func108, Tryz.ntmps108
  go_wp2_with fail
  go_region_law (refine step_append_room rfl (.tmp 22) (.tmp 25) 36 rfl 112 i0 5 Tryz.underlying36 HI0.out hz1 g 0 i cap (by simp [Act.eval, Act.put]) A (n - (i + 1)) (cap - (i + 1)) news (by simp [Act.eval, Act.put]) HNL.out hsrc.out H1C.out (by omega) HSP.out ?_; rw [← hW.out])
  go_wp2
  go_ret
  exact ⟨by rw [HIM.out]; rfl, HFIN.out, HF2.out⟩
theorem news_cells {w : World} {base : Nat} {av : Option Addr} {n cv : Nat} {l : List Nt.Nw} (h : SlN w base (.slice av n cv) n (nwI l)) {k : Nat} (hk : k < l.length) :
    ∃ g, av = some ⟨g, 0, none⟩ ∧ w.cell? ⟨g, k * 5, none⟩ = some (.int .i64 (nwGet l k).a) ∧ w.cell? ⟨g, k * 5 + 1, none⟩ = some (.int .i64 (nwGet l k).g) ∧ w.cell? ⟨g, k * 5 + 2, none⟩ = some (.int .i64 (nwGet l k).t) ∧ w.cell? ⟨g, k * 5 + 3, none⟩ = some (.int .i64 (nwGet l k).q) ∧ w.cell? ⟨g, k * 5 + 4, none⟩ = some (.int .i64 (nwGet l k).d) := by
  obtain ⟨a, cap, he, hr, _, _, _, _, hp⟩ := ownsRow_rd h
  cases he
  have hl := h.1
  rw [List.length_map, nwI_len] at hl
  obtain ⟨e0, e1, e2, e3, e4⟩ := nwI_at l k hk
  obtain ⟨b, o, rfl, c0⟩ := hr (k * 5) (by omega)
  have ho := hp _ rfl
  simp only [Addr.mk.injEq] at ho
  obtain ⟨_, rfl, _⟩ := ho
  obtain ⟨b1, o1, x1, c1⟩ := hr (k * 5 + 1) (by omega)
  obtain ⟨b2, o2, x2, c2⟩ := hr (k * 5 + 2) (by omega)
  obtain ⟨b3, o3, x3, c3⟩ := hr (k * 5 + 3) (by omega)
  obtain ⟨b4, o4, x4, c4⟩ := hr (k * 5 + 4) (by omega)
  cases x1; cases x2; cases x3; cases x4
  rw [Nat.zero_add] at c0 c1 c2 c3 c4
  dsimp only at c0 c1 c2 c3 c4
  rw [e0] at c0
  rw [e1] at c1
  rw [e2] at c2
  rw [e3] at c3
  rw [e4] at c4
  exact ⟨b, rfl, c0, c1, c2, c3, c4⟩
def nw5 (x : Nt.Nw) : Value := .agg #[.int .i64 x.a, .int .i64 x.g, .int .i64 x.t, .int .i64 x.q, .int .i64 x.d]
def TakeNo (w : World) (e : Ending) (w' : World) : Prop := e = .returned (.tuple #[nw5 ⟨0, 0, 0, 0, 0⟩, .int .i64 6]) ∧ Fr NoB w w'
def TakeYes (x : Ids) (v : Value) (t : Nt.NT) (k : Nat) (w : World) (e : Ending) (w' : World) : Prop :=
  ∃ v', e = .returned (.tuple #[nw5 (Nt.nwAt t k), .int .i64 0]) ∧ NtAt w' x v' (Nt.lost t k) ∧ Fr (Ft x v) w w' ∧ ∀ g, v'.ownBlock = some g → v.ownBlock = some g
set_option maxRecDepth 100000 in
set_option maxHeartbeats 4000000 in
theorem take_no (x : Ids) (v : Value) (t : Nt.NT) (k : Int) (w : World) (ho : Nt.out t k) (h : NtAt w x v t) :
    Calls Tryz.prog 90 #[.pointer (some ⟨x.b, 0, none⟩), .int .i64 k] w (TakeNo w) := by
  have c7 := h.c7
  have hbl := h.lt (.inl rfl)
  obtain ⟨av, cv, rfl, j⟩ := ownsRow_rd h.news
  clear h j
  by_cases h0 : k < 0
  · clear ho
    go_enter Tryz.func90, Tryz.ntmps90
    go_wp2
    refine bodyPost_ret (v := .tuple #[nw5 ⟨0, 0, 0, 0, 0⟩, .int .i64 6]) ?_ rfl ⟨rfl, (Fr.refl _ _).alloc _⟩
    simp [results, Tryz.results90, go_sem, nw5]
  · have h1 : (t.news.length : Int) ≤ k := by unfold Nt.out at ho; omega
    clear ho
    go_enter Tryz.func90, Tryz.ntmps90
    go_wp2
    refine bodyPost_ret (v := .tuple #[nw5 ⟨0, 0, 0, 0, 0⟩, .int .i64 6]) ?_ rfl ⟨rfl, (Fr.refl _ _).alloc _⟩
    simp [results, Tryz.results90, go_sem, nw5]
set_option maxRecDepth 100000 in
set_option maxHeartbeats 4000000 in
theorem take_yes (x : Ids) (v : Value) (t : Nt.NT) (k : Nat) (w : World) (hk : k < t.news.length) (hl : t.news.length ≤ 40) (h : NtAt w x v t) :
    Calls Tryz.prog 90 #[.pointer (some ⟨x.b, 0, none⟩), .int .i64 k] w (TakeYes x v t k w) := by
  have c7 := h.c7
  have hbl := h.lt (.inl rfl)
  obtain ⟨av, cv, rfl, j⟩ := ownsRow_rd h.news
  clear j
  obtain ⟨g, rfl, d0, d1, d2, d3, d4⟩ := news_cells h.news hk
  have hki : (k : Int) < (t.news.length : Int) := by omega
  have hnw : nwGet t.news k = Nt.nwAt t k := rfl
  rw [hnw] at d0 d1 d2 d3 d4
  have hob : (Value.slice (some ⟨g, 0, none⟩) t.news.length cv).ownBlock = some g := rfl
  have hgl := h.lt (.inr (.inr (.inr hob)))
  have hsum := IntWalk.i64_in ((k : Int) + 1) (by omega)
  have H := Lib.hid h; clear h; have HL := Lib.hid hl; clear hl
  clear hnw hob
  go_enter Tryz.func90, Tryz.ntmps90
  go_upto_region 4 with fail
  refine wp_name fun w1 hw1 => ?_
  have hf : Fr NoB w w1 := by rw [hw1]; exact ((Fr.refl _ _).alloc _).alloc _
  have hr0 : w1.rowIs w.heap.size 112 5 (fun _ => .int .i64 0) := by rw [hw1]; exact World.rowIs.alloc (rowIs_new w 5 (.int .i64 0) 112) _
  have b0 : w1.cell? ⟨w.heap.size + 1, 0, none⟩ = some (.int .i64 (Nt.nwAt t k).a) := by rw [hw1]; simp
  have b1 : w1.cell? ⟨w.heap.size + 1, 1, none⟩ = some (.int .i64 (Nt.nwAt t k).g) := by rw [hw1]; simp
  have b2 : w1.cell? ⟨w.heap.size + 1, 2, none⟩ = some (.int .i64 (Nt.nwAt t k).t) := by rw [hw1]; simp
  have b3 : w1.cell? ⟨w.heap.size + 1, 3, none⟩ = some (.int .i64 (Nt.nwAt t k).q) := by rw [hw1]; simp
  have b4 : w1.cell? ⟨w.heap.size + 1, 4, none⟩ = some (.int .i64 (Nt.nwAt t k).d) := by rw [hw1]; simp
  have h1 := H.out.keep0 hf
  have c7 := h1.c7
  have hpp : ∀ i, Ft x (.slice (some ⟨g, 0, none⟩) t.news.length cv) i → i < w.heap.size := fun i hi => H.out.lt hi
  clear hw1 H d0 d1 d2 d3 d4 hgl
  generalize hp0 : w.heap.size = p0 at *
  generalize hp1 : p0 + 1 = p1 at *
  have hp01 : p0 < p1 := by omega
  have hzz : w.heap.size ≤ p0 := by omega
  have hzz1 : w.heap.size ≤ p1 := by omega
  clear hp0 hp1
  have H := Lib.hid h1; clear h1; have HF := Lib.hid hf; clear hf; have HR0 := Lib.hid hr0; clear hr0; have HPP := Lib.hid hpp; clear hpp; have HP01 := Lib.hid hp01; clear hp01; have HZZ := Lib.hid hzz; clear hzz
  go_wp2_with fail
  refine (Delete_any g cv t.news.length k (nwI t.news) _ hk (by have := HL.out; omega) H.out.news).mono ?_
  rintro e w2 ⟨rfl, hn, hf⟩
  have hob : (Value.slice (some ⟨g, 0, none⟩) t.news.length cv).ownBlock = some g := rfl
  have hgp := HPP.out g (.inr (.inr (.inr hob)))
  have hp01 := HP01.out
  have hbp := HPP.out x.b (.inl rfl)
  have hfv : Fr (fun i => (Value.slice (some ⟨g, 0, none⟩) t.news.length cv).ownBlock = some i) w1 w2 := hf.mono (fun i _ h => by unfold OneB at h; subst h; rfl)
  have hlen : (t.news.take k ++ t.news.drop (k + 1)).length = t.news.length - 1 := by rw [List.length_append, List.length_take, List.length_drop]; omega
  have hn' : SlN w2 0 (.slice (some ⟨g, 0, none⟩) (t.news.length - 1) cv) (t.news.take k ++ t.news.drop (k + 1)).length (nwI (t.news.take k ++ t.news.drop (k + 1))) := by
    rw [hlen, nwI_app, ← nwI_take, ← nwI_drop]; exact hn
  have h2 : NtAt (w2.setCell ⟨x.b, 7, none⟩ (.slice (some ⟨g, 0, none⟩) (t.news.length - 1) cv)) x (.slice (some ⟨g, 0, none⟩) (t.news.length - 1) cv) (Nt.lost t k) := H.out.setV hn' hfv
  have hff : Fr (Ft x (.slice (some ⟨g, 0, none⟩) t.news.length cv)) w (w2.setCell ⟨x.b, 7, none⟩ (.slice (some ⟨g, 0, none⟩) (t.news.length - 1) cv)) :=
    (HF.out.mono (fun _ _ h => h.elim)).trans ((hfv.mono (fun _ _ h => .inr (.inr (.inr h)))).setCell (p := ⟨x.b, 7, none⟩) (.inl (.inl rfl)) _)
  have hfs : Fr (OneB x.b) w2 (w2.setCell ⟨x.b, 7, none⟩ (.slice (some ⟨g, 0, none⟩) (t.news.length - 1) cv)) := (Fr.refl _ _).set1 _ _
  have q7 := cell_fr hf c7 (fun e : x.b = g => H.out.bv (by rw [e]; rfl))
  have qf : w2.frozen? ⟨x.b, 7, none⟩ = false := World.rowIs.frozen (hfv.row H.out.net H.out.bv) 7
  have k0 := cell_fr hfs (cell_fr hf b0 (fun e : p1 = g => by omega)) (fun e : p1 = x.b => by omega)
  have k1 := cell_fr hfs (cell_fr hf b1 (fun e : p1 = g => by omega)) (fun e : p1 = x.b => by omega)
  have k2 := cell_fr hfs (cell_fr hf b2 (fun e : p1 = g => by omega)) (fun e : p1 = x.b => by omega)
  have k3 := cell_fr hfs (cell_fr hf b3 (fun e : p1 = g => by omega)) (fun e : p1 = x.b => by omega)
  have k4 := cell_fr hfs (cell_fr hf b4 (fun e : p1 = g => by omega)) (fun e : p1 = x.b => by omega)
  have hr := hfs.row (hf.row HR0.out (fun e : p0 = g => by omega)) (fun e : p0 = x.b => by omega)
  have hpo : ∀ i, Ft x (.slice (some ⟨g, 0, none⟩) (t.news.length - 1) cv) i → i ≠ p0 := by
    intro i hi e
    subst e
    have hlt : i < i := by
      rcases hi with hi | hi | hi | hi
      · exact HPP.out i (.inl hi)
      · exact HPP.out i (.inr (.inl hi))
      · exact HPP.out i (.inr (.inr (.inl hi)))
      · exact HPP.out i (.inr (.inr (.inr hi)))
    omega
  clear hn hf hfv hlen hn' hfs c7 b0 b1 b2 b3 b4 H HF HR0 HPP hob hgp hbp hp01
  have H := Lib.hid h2; clear h2; have HF := Lib.hid hff; clear hff; have HR := Lib.hid hr; clear hr; have HPO := Lib.hid hpo; clear hpo
  go_upto_region 5 with fail
  refine wp_name fun w3 hw3 => ?_
  rw [← hw3] at k0 k1 k2 k3 k4
  have h3 := H.out
  rw [← hw3] at h3
  have hf3 := HF.out
  rw [← hw3] at hf3
  have hr3 := HR.out
  rw [← hw3] at hr3
  have z0 := World.rowIs.cell hr3 (i := 0) (by omega)
  have z1 := World.rowIs.cell hr3 (i := 1) (by omega)
  have z2 := World.rowIs.cell hr3 (i := 2) (by omega)
  have z3 := World.rowIs.cell hr3 (i := 3) (by omega)
  have z4 := World.rowIs.cell hr3 (i := 4) (by omega)
  have y0 := World.rowIs.frozen hr3 0
  have y1 := World.rowIs.frozen hr3 1
  have y2 := World.rowIs.frozen hr3 2
  have y3 := World.rowIs.frozen hr3 3
  have y4 := World.rowIs.frozen hr3 4
  clear H HF HR hw3 q7 qf
  have H := Lib.hid h3; clear h3; have HF := Lib.hid hf3; clear hf3; have HR3 := Lib.hid hr3; clear hr3
  go_wp2
  refine bodyPost_ret (v := .tuple #[nw5 (Nt.nwAt t k), .int .i64 0]) ?_ rfl ⟨_, rfl, H.out.keep (S := OneB p0) (((((Fr.refl _ _).set1 _ _).set1 _ _).set1 _ _).set1 _ _ |>.set1 _ _) HPO.out, (HF.out.setNew HZZ.out _ _).setNew HZZ.out _ _ |>.setNew HZZ.out _ _ |>.setNew HZZ.out _ _ |>.setNew HZZ.out _ _, fun g' hg' => hg'⟩
  have hR := World.rowIs.set (World.rowIs.set (World.rowIs.set (World.rowIs.set (World.rowIs.set HR3.out 0 (.int .i64 (Nt.nwAt t k).a)) 1 (.int .i64 (Nt.nwAt t k).g)) 2 (.int .i64 (Nt.nwAt t k).t)) 3 (.int .i64 (Nt.nwAt t k).q)) 4 (.int .i64 (Nt.nwAt t k).d)
  have s0 := World.rowIs.cell hR (i := 0) (by omega)
  have s1 := World.rowIs.cell hR (i := 1) (by omega)
  have s2 := World.rowIs.cell hR (i := 2) (by omega)
  have s3 := World.rowIs.cell hR (i := 3) (by omega)
  have s4 := World.rowIs.cell hR (i := 4) (by omega)
  clear hR
  generalize ((((w3.setCell ⟨p0, 0, none⟩ (.int .i64 (Nt.nwAt t k).a)).setCell ⟨p0, 1, none⟩ (.int .i64 (Nt.nwAt t k).g)).setCell ⟨p0, 2, none⟩ (.int .i64 (Nt.nwAt t k).t)).setCell ⟨p0, 3, none⟩ (.int .i64 (Nt.nwAt t k).q)).setCell ⟨p0, 4, none⟩ (.int .i64 (Nt.nwAt t k).d) = W5 at *
  simp at s0 s1 s2 s3 s4
  simp [results, Tryz.results90, go_sem, nw5, s0, s1, s2, s3, s4]
end Go.Proofs.YteedndapbfihaaaGreat
