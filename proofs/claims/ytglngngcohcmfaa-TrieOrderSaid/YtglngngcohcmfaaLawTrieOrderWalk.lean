/- TrieOrder: the walk. -/
import Derived.Test.YtglngngcohcmfaaTr7
namespace Go.Proofs.Ytglngngcohcmfaa.lawTrieOrder
open Go.RowKit Go.Deep Go.Proofs.Ytglngngcohcmfaa

def RelO (R : List Tb.Rt) (w0 : World) (s i : Value) (wr : World) : Prop :=
  ∃ (k : Nat) (n : Int), k ≤ R.length ∧ i = .int .i64 k ∧ s = .int .i64 n ∧ Hid (Tb.Chain n (R.drop k) 256) ∧ Hid (Fr NoB w0 wr)
set_option maxRecDepth 100000 in
set_option maxHeartbeats 16000000 in
theorem walk_any (la : Option Addr) (lc : Nat) (S : List Tb.Rt) (x : Int) (w : World) (hS : Rs w la S) :
    Calls Try.prog 9 #[.slice la S.length lc, .int .i64 x] w (TrueFr w) := by
  by_cases h1 : 120 < S.length
  · have hb1 : (120 : Int) < (S.length : Int) := by omega
    clear h1
    go_enter Try.func9, Try.ntmps9
    go_wp2_with fail
    refine (trieBegun_true _).mono ?_
    rintro e w1 ⟨rfl, hf⟩
    have HF := Lib.hid hf
    clear hf
    go_wp2
    go_ret
    exact ⟨rfl, HF.out⟩
  · have hb1 : ¬ (120 : Int) < (S.length : Int) := by omega
    have HLS : Hid (S.length ≤ 1000) := by show S.length ≤ 1000; omega
    have HS := Lib.hid hS; clear hS
    clear h1
    go_enter Try.func9, Try.ntmps9
    go_wp2_with fail
    refine (trieBegun_true _).mono ?_
    rintro e w1 ⟨rfl, hf⟩
    have HF := Lib.hid hf
    clear hf
    go_wp2_with fail
    refine (tables_any la lc S _ HLS.out (HS.out.keep0 HF.out)).mono ?_
    rintro e w2 ⟨t, v, ra, rc, rfl, h2⟩
    obtain ⟨hwf, h40⟩ := Tb.play_ok S
    generalize Tb.play S = L at *
    have HF3 := Lib.hid (HF.out.trans h2.f)
    have HA3 := Lib.hid h2
    have HWF := Lib.hid hwf
    have HL : Hid (L.length ≤ 1000) := by show L.length ≤ 1000; omega
    have HLK : Hid (∀ a : Int, (Tb.lookR L a).1 = Tb.look L a) := fun a => (Tb.look_both hwf a).1
    clear h2 hwf h40 HF
    have hof := fun W (hW : Fr NoB w2 W) => TOf_any t v L W HL.out HWF.out (HA3.out.at_.keep0 hW)
    have hlv : Tb.lv 8 ⟨0, 0⟩ (Tb.allOf L) = Tb.leaves (Tb.mkT 8 ⟨0, 0⟩ (Tb.allOf L)) := (Tb.mkT_leaves 8 _ _ (fit1 L)).symm
    have hln : (Tb.leaves (Tb.mkT 8 ⟨0, 0⟩ (Tb.allOf L))).length ≤ 1000 := by
      rw [← hlv]
      have := (lv_len 8 _ _ (fit1 L)).2
      rw [Tb.allOf_len] at this
      omega
    have hch := Tb.lv_chain 8 _ _ (fit1 L)
    rw [Tb.fst00', Tb.lst00'] at hch
    have hwl := Tb.lv_wf (fit1 L) (fun n hn => by rw [allOf_get L hn]; exact Tb.look_hopOK HWF.out n)
    have hall : ∀ k : Nat, k < 256 → (Tb.lookR (Tb.lv 8 ⟨0, 0⟩ (Tb.allOf L)) k).1 = (Tb.lookR L k).1 := fun k hk => by
      rw [(Tb.look_both hwl k).1, HLK.out, Tb.lv_look (fit1 L) hk]
      exact allOf_get L hk
    have hchk := Tb.chk_of_wf hwl
    rw [hlv] at hch hall hchk
    generalize Tb.mkT 8 ⟨0, 0⟩ (Tb.allOf L) = T at *
    have HOF := Lib.hid hof; clear hof; have HLN := Lib.hid hln; clear hln; have HCH := Lib.hid hch; clear hch; have HALL := Lib.hid hall; clear hall; have HCHK := Lib.hid hchk; clear hchk
    clear hlv hwl
    go_wp2_with fail
    refine (HOF.out _ (Fr.refl _ _)).mono ?_
    rintro e w4 ⟨b, rfl, ht, hf⟩
    have HT4 := Lib.hid ht
    have HF4 := Lib.hid hf
    clear ht hf
    go_wp2_with fail
    refine (leaves_any T b _ HT4.out HLN.out).mono ?_
    rintro e w5 ⟨y1, rfl, hv, hf⟩
    obtain ⟨ya, yc, rfl, hyr, _⟩ := hv.shape
    have HY := Lib.hid hyr
    have HT5 := Lib.hid (HT4.out.keep0 hf)
    have HF5 := Lib.hid (HF4.out.trans hf)
    clear hv hf hyr HT4 HOF
    have hnl := HLN.out
    go_wp2
    go_loopw [10, 11] (fun s i wr => RelO (Tb.leaves T) w5 s i wr) (fun _ i _ => (Tb.leaves T).length - (intOf i).toNat)
    case atStart => exact ⟨0, 0, by omega, rfl, rfl, HCH.out, Fr.refl _ _⟩
    case round =>
      obtain ⟨k, n, hk, rfl, rfl, hcn, hf⟩ := hrel
      by_cases hkk : k < (Tb.leaves T).length
      · obtain ⟨b0, o0, rfl, c0, c1, _⟩ := (HY.out.keep0 hf.out) k hkk
        obtain ⟨k1, k2, k3⟩ := Tb.chain_nth hcn.out hkk
        generalize hr : Tb.nth (Tb.leaves T) k = r at *
        obtain ⟨⟨l, bb⟩, h⟩ := r
        dsimp only at c0 c1 k1 k2 k3
        have hfl := Tb.fst_le k1
        have hfg := Tb.fst_ge k1
        have hki : (k : Int) < ((Tb.leaves T).length : Int) := by omega
        generalize hls : Tb.lst ⟨l, bb⟩ = z at *
        have HLS2 := Lib.hid hls
        have HK2 := Lib.hid k2
        have HK3 := Lib.hid k3
        have hz0 : 0 ≤ z := by omega
        have hz1 : z < 256 := hfl.2
        clear hr k1 k2 k3 hfl hfg hls
        go_wp2_with fail
        refine (RFirst_any _ _ _).mono ?_
        rw [HK2.out]
        rintro e w6 ⟨rfl, hf2⟩
        have c0 := cell_fr' hf2 c0 (fun h => h)
        have c1 := cell_fr' hf2 c1 (fun h => h)
        have HF6 := Lib.hid (hf.out.trans hf2)
        clear hf2
        go_wp2_with fail
        refine (RLast_any _ _ _).mono ?_
        rw [HLS2.out]
        rintro e w7 ⟨rfl, hf2⟩
        have HF7 := Lib.hid (HF6.out.trans hf2)
        clear hf2
        go_wp2
        go_roundw
        case rel => exact ⟨k + 1, z + 1, by omega, by go_num, by go_num, HK3.out, HF7.out⟩
        case measure => simp [intOf]; omega
      · have e : (Tb.leaves T).drop k = [] := List.drop_eq_nil_of_le (by omega)
        have hn256 : n = 256 := by have h := hcn.out; rw [e] at h; exact h
        subst hn256
        clear e hcn
        have HTR := Lib.hid (HT5.out.keep0 hf.out)
        have HTD := Lib.hid (HT5.out.keep0 (hf.out.drew))
        have HDr := Lib.hid (hf.out.drew)
        clear HT5
        by_cases h40 : 40 < (Tb.leaves T).length
        · have hb40 : decide ((40 : Int) < ((Tb.leaves T).length : Int)) = true := by simp; omega
          have hck := HCHK.out
          rw [if_pos h40] at hck
          have HCK := Lib.hid hck
          clear hck h40
          cases T with
          | leaf p hh =>
            go_upto_region 17 with fail
            (refine wp_region_held_drew (S := (fun W => W.cell? ⟨b, 3, none⟩ = some (.pointer none))) (by kernel_rfl) HTR.out.c3 (fun hHeld => ?_))
            (refine wpAnyH_take (i := 0) (v := ?_) (by simp only [List.getElem?_toArray, List.getElem?_cons_zero]; rfl) (by kernel_rfl) (by kernel_rfl) (by kernel_rfl) (by exact fun _ _ _ h => h) (Or.inl ⟨by rfl, ?_⟩) hHeld ?_; rotate_left; (focus (intro w hSw; (try dsimp only at hSw); go_simp; all_goals with_reducible rfl)); (try simp only [Act.put, List.setIfInBounds_toArray, List.set_cons_zero, List.set_cons_succ])); (refine wpAnyH_take (i := 1) (v := ?_) (by simp only [List.getElem?_toArray, List.getElem?_cons_succ, List.getElem?_cons_zero]; rfl) (by kernel_rfl) (by kernel_rfl) (by kernel_rfl) (by exact fun _ _ _ h => h) (Or.inl ⟨by rfl, ?_⟩) hHeld ?_; rotate_left; (focus (intro w hSw; (try dsimp only at hSw); go_simp; all_goals with_reducible rfl)); (try simp only [Act.put, List.setIfInBounds_toArray, List.set_cons_zero, List.set_cons_succ])); (refine wpAnyH_take (i := 2) (v := ?_) (by simp only [List.getElem?_toArray, List.getElem?_cons_succ, List.getElem?_cons_zero]; rfl) (by kernel_rfl) (by kernel_rfl) (by kernel_rfl) (by exact fun _ _ _ h => h) (Or.inl ⟨by rfl, ?_⟩) hHeld ?_; rotate_left; (focus (intro w hSw; (try dsimp only at hSw); go_simp; all_goals with_reducible rfl)); (try simp only [Act.put, List.setIfInBounds_toArray, List.set_cons_zero, List.set_cons_succ])); (refine wpAnyH_take (i := 3) (v := ?_) (by simp only [List.getElem?_toArray, List.getElem?_cons_succ, List.getElem?_cons_zero]; rfl) (by kernel_rfl) (by kernel_rfl) (by kernel_rfl) (by exact fun _ _ _ h => h) (Or.inl ⟨by rfl, ?_⟩) hHeld ?_; rotate_left; (focus (intro w hSw; (try dsimp only at hSw); go_simp; all_goals with_reducible rfl)); (try simp only [Act.put, List.setIfInBounds_toArray, List.set_cons_zero, List.set_cons_succ]))
            (refine wpAnyH_ready (rs := [4]) (by kernel_rfl) (by simp) ?_; refine AllReadyH.cons (by simp only [List.getElem?_toArray, List.getElem?_cons_succ, List.getElem?_cons_zero]; rfl) (fun K hK => ?_) AllReadyH.nil; go_simp); (refine (Leaf_any _ b _ HTD.out).mono ?_; rintro e w7 ⟨rfl, rfl⟩; dsimp only [Tb.Tr.isLeaf]); (try go_wp2_with fail); (refine hK.out _ _ HTR.out.c3 (fun hHeld => ?_)); clear hK K; (try simp only [Act.put, List.setIfInBounds_toArray, List.set_cons_zero, List.set_cons_succ])
            (refine wpAnyH_take (i := 5) (v := ?_) (by simp only [List.getElem?_toArray, List.getElem?_cons_succ, List.getElem?_cons_zero]; rfl) (by kernel_rfl) (by kernel_rfl) (by kernel_rfl) (by exact fun _ _ _ h => h) (Or.inl ⟨by rfl, ?_⟩) hHeld ?_; rotate_left; (focus (intro w hSw; (try dsimp only at hSw); go_simp; all_goals with_reducible rfl)); (try simp only [Act.put, List.setIfInBounds_toArray, List.set_cons_zero, List.set_cons_succ])); (refine wpAnyH_take (i := 6) (v := ?_) (by simp only [List.getElem?_toArray, List.getElem?_cons_succ, List.getElem?_cons_zero]; rfl) (by kernel_rfl) (by kernel_rfl) (by kernel_rfl) (by exact fun _ _ _ h => h) (Or.inl ⟨by rfl, ?_⟩) hHeld ?_; rotate_left; (focus (intro w hSw; (try dsimp only at hSw); go_simp; all_goals with_reducible rfl)); (try simp only [Act.put, List.setIfInBounds_toArray, List.set_cons_zero, List.set_cons_succ])); (refine wpAnyH_take (i := 7) (v := undef) (by simp only [List.getElem?_toArray, List.getElem?_cons_succ, List.getElem?_cons_zero]; rfl) (by kernel_rfl) (by kernel_rfl) (by kernel_rfl) (by exact fun _ _ _ h => h) (Or.inr ⟨by rfl, rfl⟩) hHeld ?_; (try simp only [Act.put, List.setIfInBounds_toArray, List.set_cons_zero, List.set_cons_succ])); (refine wpAnyH_take (i := 8) (v := undef) (by simp only [List.getElem?_toArray, List.getElem?_cons_succ, List.getElem?_cons_zero]; rfl) (by kernel_rfl) (by kernel_rfl) (by kernel_rfl) (by exact fun _ _ _ h => h) (Or.inr ⟨by rfl, rfl⟩) hHeld ?_; (try simp only [Act.put, List.setIfInBounds_toArray, List.set_cons_zero, List.set_cons_succ])); (refine wpAnyH_take (i := 9) (v := undef) (by simp only [List.getElem?_toArray, List.getElem?_cons_succ, List.getElem?_cons_zero]; rfl) (by kernel_rfl) (by kernel_rfl) (by kernel_rfl) (by exact fun _ _ _ h => h) (Or.inr ⟨by rfl, rfl⟩) hHeld ?_; (try simp only [Act.put, List.setIfInBounds_toArray, List.set_cons_zero, List.set_cons_succ])); (refine wpAnyH_take (i := 10) (v := undef) (by simp only [List.getElem?_toArray, List.getElem?_cons_succ, List.getElem?_cons_zero]; rfl) (by kernel_rfl) (by kernel_rfl) (by kernel_rfl) (by exact fun _ _ _ h => h) (Or.inr ⟨by rfl, rfl⟩) hHeld ?_; (try simp only [Act.put, List.setIfInBounds_toArray, List.set_cons_zero, List.set_cons_succ])); (refine wpAnyH_take (i := 11) (v := undef) (by simp only [List.getElem?_toArray, List.getElem?_cons_succ, List.getElem?_cons_zero]; rfl) (by kernel_rfl) (by kernel_rfl) (by kernel_rfl) (by exact fun _ _ _ h => h) (Or.inr ⟨by rfl, rfl⟩) hHeld ?_; (try simp only [Act.put, List.setIfInBounds_toArray, List.set_cons_zero, List.set_cons_succ])); (refine wpAnyH_take (i := 12) (v := undef) (by simp only [List.getElem?_toArray, List.getElem?_cons_succ, List.getElem?_cons_zero]; rfl) (by kernel_rfl) (by kernel_rfl) (by kernel_rfl) (by exact fun _ _ _ h => h) (Or.inr ⟨by rfl, rfl⟩) hHeld ?_; (try simp only [Act.put, List.setIfInBounds_toArray, List.set_cons_zero, List.set_cons_succ])); (refine wpAnyH_take (i := 13) (v := undef) (by simp only [List.getElem?_toArray, List.getElem?_cons_succ, List.getElem?_cons_zero]; rfl) (by kernel_rfl) (by kernel_rfl) (by kernel_rfl) (by exact fun _ _ _ h => h) (Or.inr ⟨by rfl, rfl⟩) hHeld ?_; (try simp only [Act.put, List.setIfInBounds_toArray, List.set_cons_zero, List.set_cons_succ])); (refine wpAnyH_take (i := 14) (v := undef) (by simp only [List.getElem?_toArray, List.getElem?_cons_succ, List.getElem?_cons_zero]; rfl) (by kernel_rfl) (by kernel_rfl) (by kernel_rfl) (by exact fun _ _ _ h => h) (Or.inr ⟨by rfl, rfl⟩) hHeld ?_; (try simp only [Act.put, List.setIfInBounds_toArray, List.set_cons_zero, List.set_cons_succ])); (refine wpAnyH_take (i := 15) (v := undef) (by simp only [List.getElem?_toArray, List.getElem?_cons_succ, List.getElem?_cons_zero]; rfl) (by kernel_rfl) (by kernel_rfl) (by kernel_rfl) (by exact fun _ _ _ h => h) (Or.inr ⟨by rfl, rfl⟩) hHeld ?_; (try simp only [Act.put, List.setIfInBounds_toArray, List.set_cons_zero, List.set_cons_succ])); (refine wpAnyH_take (i := 16) (v := undef) (by simp only [List.getElem?_toArray, List.getElem?_cons_succ, List.getElem?_cons_zero]; rfl) (by kernel_rfl) (by kernel_rfl) (by kernel_rfl) (by exact fun _ _ _ h => h) (Or.inr ⟨by rfl, rfl⟩) hHeld ?_; (try simp only [Act.put, List.setIfInBounds_toArray, List.set_cons_zero, List.set_cons_succ])); (refine wpAnyH_take (i := 17) (v := undef) (by simp only [List.getElem?_toArray, List.getElem?_cons_succ, List.getElem?_cons_zero]; rfl) (by kernel_rfl) (by kernel_rfl) (by kernel_rfl) (by exact fun _ _ _ h => h) (Or.inr ⟨by rfl, rfl⟩) hHeld ?_; (try simp only [Act.put, List.setIfInBounds_toArray, List.set_cons_zero, List.set_cons_succ])); (refine wpAnyH_take (i := 18) (v := undef) (by simp only [List.getElem?_toArray, List.getElem?_cons_succ, List.getElem?_cons_zero]; rfl) (by kernel_rfl) (by kernel_rfl) (by kernel_rfl) (by exact fun _ _ _ h => h) (Or.inr ⟨by rfl, rfl⟩) hHeld ?_; (try simp only [Act.put, List.setIfInBounds_toArray, List.set_cons_zero, List.set_cons_succ])); (refine wpAnyH_take (i := 19) (v := undef) (by simp only [List.getElem?_toArray, List.getElem?_cons_succ, List.getElem?_cons_zero]; rfl) (by kernel_rfl) (by kernel_rfl) (by kernel_rfl) (by exact fun _ _ _ h => h) (Or.inr ⟨by rfl, rfl⟩) hHeld ?_; (try simp only [Act.put, List.setIfInBounds_toArray, List.set_cons_zero, List.set_cons_succ])); (refine wpAnyH_take (i := 20) (v := undef) (by simp only [List.getElem?_toArray, List.getElem?_cons_succ, List.getElem?_cons_zero]; rfl) (by kernel_rfl) (by kernel_rfl) (by kernel_rfl) (by exact fun _ _ _ h => h) (Or.inr ⟨by rfl, rfl⟩) hHeld ?_; (try simp only [Act.put, List.setIfInBounds_toArray, List.set_cons_zero, List.set_cons_succ])); (refine wpAnyH_take (i := 21) (v := ?_) (by simp only [List.getElem?_toArray, List.getElem?_cons_succ, List.getElem?_cons_zero]; rfl) (by kernel_rfl) (by kernel_rfl) (by kernel_rfl) (by exact fun _ _ _ h => h) (Or.inl ⟨by rfl, ?_⟩) hHeld ?_; rotate_left; (focus (intro w hSw; (try dsimp only at hSw); go_simp; all_goals with_reducible rfl)); (try simp only [Act.put, List.setIfInBounds_toArray, List.set_cons_zero, List.set_cons_succ])); (refine wpAnyH_take (i := 22) (v := ?_) (by simp only [List.getElem?_toArray, List.getElem?_cons_succ, List.getElem?_cons_zero]; rfl) (by kernel_rfl) (by kernel_rfl) (by kernel_rfl) (by exact fun _ _ _ h => h) (Or.inl ⟨by rfl, ?_⟩) hHeld ?_; rotate_left; (focus (intro w hSw; (try dsimp only at hSw); go_simp; all_goals with_reducible rfl)); (try simp only [Act.put, List.setIfInBounds_toArray, List.set_cons_zero, List.set_cons_succ]))
            (refine wpAnyH_done (by kernel_rfl) ?_ _)
            go_upto_region 19 with fail
            refine wp_name fun w9 hw9 => ?_
            have hF9 : Fr NoB wr w9 := by rw [hw9]; (repeat (first | exact Fr.refl _ _ | refine Fr.alloc ?_ _ | refine Fr.setNew ?_ (by omega) _ _ | refine Fr.drewN ?_ _ | refine Fr.drew ?_))
            have HG9 := Lib.hid (hf.out.trans hF9)
            clear hw9 hF9
            go_wp2_with fail
            refine (AllOf_any ya yc (Tb.leaves (.leaf p hh)) _ HLN.out (HY.out.keep0 HG9.out)).mono ?_
            rintro e x1 ⟨gA, rfl, _, hrA, hf⟩
            have GF1 := Lib.hid (HG9.out.trans hf)
            have rA := Lib.hid hrA
            clear hf hrA
            go_wp2_with fail
            refine (AllOf_any ra rc L _ HL.out (HA3.out.rs.keep0 (HF5.out.trans GF1.out))).mono ?_
            rintro e x2 ⟨gB, rfl, _, hrB, hf⟩
            have GF2 := Lib.hid (GF1.out.trans hf)
            have rB := Lib.hid hrB
            have rA := Lib.hid (hf.row rA.out (fun h => h))
            clear hf hrB
            go_wp2_with fail
            refine (SameInts_fr (some ⟨gA, 0, none⟩) (some ⟨gB, 0, none⟩) 256 256 256 256 _ _ _ (by omega) (by omega) (Rd.row rA.out) (Rd.row rB.out)).mono ?_
            rintro e x3 ⟨r2, rfl, hr2, hf⟩
            obtain rfl := hr2.2 ⟨rfl, fun k hk => HALL.out k hk⟩
            have GF3 := Lib.hid (GF2.out.trans hf)
            clear hf hr2
            go_wp2_with fail
            refine (Check_all ya yc (Tb.leaves (.leaf p hh)) _ (HY.out.keep0 GF3.out)).mono ?_
            rw [HCK.out]
            rintro e x4 ⟨rfl, hf⟩
            have HFE := Lib.hid (HF3.out.trans (HF5.out.trans (GF3.out.trans hf)))
            clear hf
            go_wp2
            go_ret
            exact ⟨by simp, HFE.out⟩
          | node p tl tr =>
            obtain ⟨bl, br, hn, htl, htr⟩ := HTR.out
            have c3 := hn.c3
            have c4 := hn.c4
            have elen : (Tb.leaves (.node p tl tr)).length = (Tb.leaves tl).length + (Tb.leaves tr).length := by show (Tb.leaves tl ++ Tb.leaves tr).length = _; rw [List.length_append]
            have hs0 := fun W (hW : Fr NoB wr W) => size_any _ b W (HTR.out.keep0 hW) HLN.out
            have hs1 := fun W (hW : Fr NoB wr W) => size_any tl bl W (htl.keep0 hW) (by have := HLN.out; omega)
            have hs2 := fun W (hW : Fr NoB wr W) => size_any tr br W (htr.keep0 hW) (by have := HLN.out; omega)
            have ecast : (((Tb.leaves (.node p tl tr)).length : Nat) : Int) = ((Tb.leaves tl).length : Int) + ((Tb.leaves tr).length : Int) := by omega
            rw [ecast] at hs0
            have hsum := IntWalk.i64_in (((Tb.leaves tl).length : Int) + ((Tb.leaves tr).length : Int)) (by omega)
            have hsum1 : ((((Tb.leaves tl).length : Int) + ((Tb.leaves tr).length : Int)) != (((Tb.leaves tl).length : Int) + ((Tb.leaves tr).length : Int))) = false := by simp
            have HS0 := Lib.hid hs0; clear hs0; have HS1 := Lib.hid hs1; clear hs1; have HS2 := Lib.hid hs2; clear hs2
            have HW := Lib.hid (Fr.drew (Fr.refl NoB wr))
            clear hn htl htr elen ecast
            go_upto_region 17 with fail
            (refine wp_region_held_drew (S := (fun W => W.cell? ⟨b, 3, none⟩ = some (.pointer (some ⟨bl, 0, none⟩)) ∧ W.cell? ⟨b, 4, none⟩ = some (.pointer (some ⟨br, 0, none⟩)))) (by kernel_rfl) ⟨c3, c4⟩ (fun hHeld => ?_))
            (refine wpAnyH_take (i := 0) (v := ?_) (by simp only [List.getElem?_toArray, List.getElem?_cons_zero]; rfl) (by kernel_rfl) (by kernel_rfl) (by kernel_rfl) (by exact fun _ _ _ h => h) (Or.inl ⟨by rfl, ?_⟩) hHeld ?_; rotate_left; (focus (intro w hSw; (try dsimp only at hSw); go_simp; all_goals with_reducible rfl)); (try simp only [Act.put, List.setIfInBounds_toArray, List.set_cons_zero, List.set_cons_succ])); (refine wpAnyH_take (i := 1) (v := ?_) (by simp only [List.getElem?_toArray, List.getElem?_cons_succ, List.getElem?_cons_zero]; rfl) (by kernel_rfl) (by kernel_rfl) (by kernel_rfl) (by exact fun _ _ _ h => h) (Or.inl ⟨by rfl, ?_⟩) hHeld ?_; rotate_left; (focus (intro w hSw; (try dsimp only at hSw); go_simp; all_goals with_reducible rfl)); (try simp only [Act.put, List.setIfInBounds_toArray, List.set_cons_zero, List.set_cons_succ])); (refine wpAnyH_take (i := 2) (v := ?_) (by simp only [List.getElem?_toArray, List.getElem?_cons_succ, List.getElem?_cons_zero]; rfl) (by kernel_rfl) (by kernel_rfl) (by kernel_rfl) (by exact fun _ _ _ h => h) (Or.inl ⟨by rfl, ?_⟩) hHeld ?_; rotate_left; (focus (intro w hSw; (try dsimp only at hSw); go_simp; all_goals with_reducible rfl)); (try simp only [Act.put, List.setIfInBounds_toArray, List.set_cons_zero, List.set_cons_succ])); (refine wpAnyH_take (i := 3) (v := ?_) (by simp only [List.getElem?_toArray, List.getElem?_cons_succ, List.getElem?_cons_zero]; rfl) (by kernel_rfl) (by kernel_rfl) (by kernel_rfl) (by exact fun _ _ _ h => h) (Or.inl ⟨by rfl, ?_⟩) hHeld ?_; rotate_left; (focus (intro w hSw; (try dsimp only at hSw); go_simp; all_goals with_reducible rfl)); (try simp only [Act.put, List.setIfInBounds_toArray, List.set_cons_zero, List.set_cons_succ]))
            (refine wpAnyH_ready (rs := [4]) (by kernel_rfl) (by simp) ?_; refine AllReadyH.cons (by simp only [List.getElem?_toArray, List.getElem?_cons_succ, List.getElem?_cons_zero]; rfl) (fun K hK => ?_) AllReadyH.nil; go_simp); (refine (Leaf_any _ b _ HTD.out).mono ?_; rintro e w7 ⟨rfl, rfl⟩; dsimp only [Tb.Tr.isLeaf]); (try go_wp2_with fail); (refine hK.out _ _ ⟨c3, c4⟩ (fun hHeld => ?_)); clear hK K; (try simp only [Act.put, List.setIfInBounds_toArray, List.set_cons_zero, List.set_cons_succ])
            (refine wpAnyH_take (i := 5) (v := ?_) (by simp only [List.getElem?_toArray, List.getElem?_cons_succ, List.getElem?_cons_zero]; rfl) (by kernel_rfl) (by kernel_rfl) (by kernel_rfl) (by exact fun _ _ _ h => h) (Or.inl ⟨by rfl, ?_⟩) hHeld ?_; rotate_left; (focus (intro w hSw; (try dsimp only at hSw); go_simp; all_goals with_reducible rfl)); (try simp only [Act.put, List.setIfInBounds_toArray, List.set_cons_zero, List.set_cons_succ])); (refine wpAnyH_take (i := 6) (v := ?_) (by simp only [List.getElem?_toArray, List.getElem?_cons_succ, List.getElem?_cons_zero]; rfl) (by kernel_rfl) (by kernel_rfl) (by kernel_rfl) (by exact fun _ _ _ h => h) (Or.inl ⟨by rfl, ?_⟩) hHeld ?_; rotate_left; (focus (intro w hSw; (try dsimp only at hSw); go_simp; all_goals with_reducible rfl)); (try simp only [Act.put, List.setIfInBounds_toArray, List.set_cons_zero, List.set_cons_succ])); (refine wpAnyH_take (i := 7) (v := ?_) (by simp only [List.getElem?_toArray, List.getElem?_cons_succ, List.getElem?_cons_zero]; rfl) (by kernel_rfl) (by kernel_rfl) (by kernel_rfl) (by exact fun _ _ _ h => h) (Or.inl ⟨by rfl, ?_⟩) hHeld ?_; rotate_left; (focus (intro w hSw; (try dsimp only at hSw); go_simp; all_goals with_reducible rfl)); (try simp only [Act.put, List.setIfInBounds_toArray, List.set_cons_zero, List.set_cons_succ])); (refine wpAnyH_take (i := 9) (v := ?_) (by simp only [List.getElem?_toArray, List.getElem?_cons_succ, List.getElem?_cons_zero]; rfl) (by kernel_rfl) (by kernel_rfl) (by kernel_rfl) (by exact fun _ _ _ h => h) (Or.inl ⟨by rfl, ?_⟩) hHeld ?_; rotate_left; (focus (intro w hSw; (try dsimp only at hSw); go_simp; all_goals with_reducible rfl)); (try simp only [Act.put, List.setIfInBounds_toArray, List.set_cons_zero, List.set_cons_succ])); (refine wpAnyH_take (i := 10) (v := ?_) (by simp only [List.getElem?_toArray, List.getElem?_cons_succ, List.getElem?_cons_zero]; rfl) (by kernel_rfl) (by kernel_rfl) (by kernel_rfl) (by exact fun _ _ _ h => h) (Or.inl ⟨by rfl, ?_⟩) hHeld ?_; rotate_left; (focus (intro w hSw; (try dsimp only at hSw); go_simp; all_goals with_reducible rfl)); (try simp only [Act.put, List.setIfInBounds_toArray, List.set_cons_zero, List.set_cons_succ])); (refine wpAnyH_take (i := 11) (v := ?_) (by simp only [List.getElem?_toArray, List.getElem?_cons_succ, List.getElem?_cons_zero]; rfl) (by kernel_rfl) (by kernel_rfl) (by kernel_rfl) (by exact fun _ _ _ h => h) (Or.inl ⟨by rfl, ?_⟩) hHeld ?_; rotate_left; (focus (intro w hSw; (try dsimp only at hSw); go_simp; all_goals with_reducible rfl)); (try simp only [Act.put, List.setIfInBounds_toArray, List.set_cons_zero, List.set_cons_succ])); (refine wpAnyH_take (i := 12) (v := ?_) (by simp only [List.getElem?_toArray, List.getElem?_cons_succ, List.getElem?_cons_zero]; rfl) (by kernel_rfl) (by kernel_rfl) (by kernel_rfl) (by exact fun _ _ _ h => h) (Or.inl ⟨by rfl, ?_⟩) hHeld ?_; rotate_left; (focus (intro w hSw; (try dsimp only at hSw); go_simp; all_goals with_reducible rfl)); (try simp only [Act.put, List.setIfInBounds_toArray, List.set_cons_zero, List.set_cons_succ])); (refine wpAnyH_take (i := 14) (v := ?_) (by simp only [List.getElem?_toArray, List.getElem?_cons_succ, List.getElem?_cons_zero]; rfl) (by kernel_rfl) (by kernel_rfl) (by kernel_rfl) (by exact fun _ _ _ h => h) (Or.inl ⟨by rfl, ?_⟩) hHeld ?_; rotate_left; (focus (intro w hSw; (try dsimp only at hSw); go_simp; all_goals with_reducible rfl)); (try simp only [Act.put, List.setIfInBounds_toArray, List.set_cons_zero, List.set_cons_succ])); (refine wpAnyH_take (i := 15) (v := ?_) (by simp only [List.getElem?_toArray, List.getElem?_cons_succ, List.getElem?_cons_zero]; rfl) (by kernel_rfl) (by kernel_rfl) (by kernel_rfl) (by exact fun _ _ _ h => h) (Or.inl ⟨by rfl, ?_⟩) hHeld ?_; rotate_left; (focus (intro w hSw; (try dsimp only at hSw); go_simp; all_goals with_reducible rfl)); (try simp only [Act.put, List.setIfInBounds_toArray, List.set_cons_zero, List.set_cons_succ])); (refine wpAnyH_take (i := 16) (v := ?_) (by simp only [List.getElem?_toArray, List.getElem?_cons_succ, List.getElem?_cons_zero]; rfl) (by kernel_rfl) (by kernel_rfl) (by kernel_rfl) (by exact fun _ _ _ h => h) (Or.inl ⟨by rfl, ?_⟩) hHeld ?_; rotate_left; (focus (intro w hSw; (try dsimp only at hSw); go_simp; all_goals with_reducible rfl)); (try simp only [Act.put, List.setIfInBounds_toArray, List.set_cons_zero, List.set_cons_succ])); (refine wpAnyH_take (i := 17) (v := ?_) (by simp only [List.getElem?_toArray, List.getElem?_cons_succ, List.getElem?_cons_zero]; rfl) (by kernel_rfl) (by kernel_rfl) (by kernel_rfl) (by exact fun _ _ _ h => h) (Or.inl ⟨by rfl, ?_⟩) hHeld ?_; rotate_left; (focus (intro w hSw; (try dsimp only at hSw); go_simp; all_goals with_reducible rfl)); (try simp only [Act.put, List.setIfInBounds_toArray, List.set_cons_zero, List.set_cons_succ]))
            (refine wpAnyH_ready (rs := [8]) (by kernel_rfl) (by simp) ?_; refine AllReadyH.cons (by simp only [List.getElem?_toArray, List.getElem?_cons_succ, List.getElem?_cons_zero]; rfl) (fun K hK => ?_) AllReadyH.nil; go_simp); (refine (HS0.out _ HW.out).mono ?_; rintro e y1 ⟨rfl, hf2⟩; replace c3 := cell_fr' hf2 c3 (fun h => h); replace c4 := cell_fr' hf2 c4 (fun h => h); have HW1 := Lib.hid (HW.out.trans hf2); clear hf2); (try go_wp2_with fail); (refine hK.out _ _ ⟨c3, c4⟩ (fun hHeld => ?_)); clear hK K; (try simp only [Act.put, List.setIfInBounds_toArray, List.set_cons_zero, List.set_cons_succ])
            (refine wpAnyH_ready (rs := [13]) (by kernel_rfl) (by simp) ?_; refine AllReadyH.cons (by simp only [List.getElem?_toArray, List.getElem?_cons_succ, List.getElem?_cons_zero]; rfl) (fun K hK => ?_) AllReadyH.nil; go_simp); (refine (HS1.out _ HW1.out).mono ?_; rintro e y2 ⟨rfl, hf2⟩; replace c3 := cell_fr' hf2 c3 (fun h => h); replace c4 := cell_fr' hf2 c4 (fun h => h); have HW2 := Lib.hid (HW1.out.trans hf2); clear hf2); (try go_wp2_with fail); (refine hK.out _ _ ⟨c3, c4⟩ (fun hHeld => ?_)); clear hK K; (try simp only [Act.put, List.setIfInBounds_toArray, List.set_cons_zero, List.set_cons_succ])
            (refine wpAnyH_ready (rs := [18]) (by kernel_rfl) (by simp) ?_; refine AllReadyH.cons (by simp only [List.getElem?_toArray, List.getElem?_cons_succ, List.getElem?_cons_zero]; rfl) (fun K hK => ?_) AllReadyH.nil; go_simp); (refine (HS2.out _ HW2.out).mono ?_; rintro e y3 ⟨rfl, hf2⟩; replace c3 := cell_fr' hf2 c3 (fun h => h); replace c4 := cell_fr' hf2 c4 (fun h => h); have HW3 := Lib.hid (HW2.out.trans hf2); clear hf2); (try go_wp2_with fail); (refine hK.out _ _ ⟨c3, c4⟩ (fun hHeld => ?_)); clear hK K; (try simp only [Act.put, List.setIfInBounds_toArray, List.set_cons_zero, List.set_cons_succ])
            (refine wpAnyH_take (i := 19) (v := ?_) (by simp only [List.getElem?_toArray, List.getElem?_cons_succ, List.getElem?_cons_zero]; rfl) (by kernel_rfl) (by kernel_rfl) (by kernel_rfl) (by exact fun _ _ _ h => h) (Or.inl ⟨by rfl, ?_⟩) hHeld ?_; rotate_left; (focus (intro w hSw; (try dsimp only at hSw); go_simp; all_goals with_reducible rfl)); (try simp only [Act.put, List.setIfInBounds_toArray, List.set_cons_zero, List.set_cons_succ])); (refine wpAnyH_take (i := 20) (v := ?_) (by simp only [List.getElem?_toArray, List.getElem?_cons_succ, List.getElem?_cons_zero]; rfl) (by kernel_rfl) (by kernel_rfl) (by kernel_rfl) (by exact fun _ _ _ h => h) (Or.inl ⟨by rfl, ?_⟩) hHeld ?_; rotate_left; (focus (intro w hSw; (try dsimp only at hSw); go_simp; all_goals with_reducible rfl)); (try simp only [Act.put, List.setIfInBounds_toArray, List.set_cons_zero, List.set_cons_succ])); (refine wpAnyH_take (i := 21) (v := ?_) (by simp only [List.getElem?_toArray, List.getElem?_cons_succ, List.getElem?_cons_zero]; rfl) (by kernel_rfl) (by kernel_rfl) (by kernel_rfl) (by exact fun _ _ _ h => h) (Or.inl ⟨by rfl, ?_⟩) hHeld ?_; rotate_left; (focus (intro w hSw; (try dsimp only at hSw); go_simp; all_goals with_reducible rfl)); (try simp only [Act.put, List.setIfInBounds_toArray, List.set_cons_zero, List.set_cons_succ])); (refine wpAnyH_take (i := 22) (v := ?_) (by simp only [List.getElem?_toArray, List.getElem?_cons_succ, List.getElem?_cons_zero]; rfl) (by kernel_rfl) (by kernel_rfl) (by kernel_rfl) (by exact fun _ _ _ h => h) (Or.inl ⟨by rfl, ?_⟩) hHeld ?_; rotate_left; (focus (intro w hSw; (try dsimp only at hSw); go_simp; all_goals with_reducible rfl)); (try simp only [Act.put, List.setIfInBounds_toArray, List.set_cons_zero, List.set_cons_succ]))
            (refine wpAnyH_done (by kernel_rfl) ?_ _)
            go_upto_region 19 with fail
            refine wp_name fun w9 hw9 => ?_
            have hF9 : Fr NoB y3 w9 := by rw [hw9]; (repeat (first | exact Fr.refl _ _ | refine Fr.alloc ?_ _ | refine Fr.setNew ?_ (by omega) _ _ | refine Fr.drewN ?_ _ | refine Fr.drew ?_))
            have HG9 := Lib.hid (hf.out.trans (HW3.out.trans hF9))
            clear hw9 hF9
            go_wp2_with fail
            refine (AllOf_any ya yc (Tb.leaves (.node p tl tr)) _ HLN.out (HY.out.keep0 HG9.out)).mono ?_
            rintro e x1 ⟨gA, rfl, _, hrA, hf⟩
            have GF1 := Lib.hid (HG9.out.trans hf)
            have rA := Lib.hid hrA
            clear hf hrA
            go_wp2_with fail
            refine (AllOf_any ra rc L _ HL.out (HA3.out.rs.keep0 (HF5.out.trans GF1.out))).mono ?_
            rintro e x2 ⟨gB, rfl, _, hrB, hf⟩
            have GF2 := Lib.hid (GF1.out.trans hf)
            have rB := Lib.hid hrB
            have rA := Lib.hid (hf.row rA.out (fun h => h))
            clear hf hrB
            go_wp2_with fail
            refine (SameInts_fr (some ⟨gA, 0, none⟩) (some ⟨gB, 0, none⟩) 256 256 256 256 _ _ _ (by omega) (by omega) (Rd.row rA.out) (Rd.row rB.out)).mono ?_
            rintro e x3 ⟨r2, rfl, hr2, hf⟩
            obtain rfl := hr2.2 ⟨rfl, fun k hk => HALL.out k hk⟩
            have GF3 := Lib.hid (GF2.out.trans hf)
            clear hf hr2
            go_wp2_with fail
            refine (Check_all ya yc (Tb.leaves (.node p tl tr)) _ (HY.out.keep0 GF3.out)).mono ?_
            rw [HCK.out]
            rintro e x4 ⟨rfl, hf⟩
            have HFE := Lib.hid (HF3.out.trans (HF5.out.trans (GF3.out.trans hf)))
            clear hf
            go_wp2
            go_ret
            exact ⟨by simp, HFE.out⟩
        · have hb40 : decide ((40 : Int) < ((Tb.leaves T).length : Int)) = false := by simp; omega
          have hck := HCHK.out
          rw [if_neg h40] at hck
          have HCK := Lib.hid hck
          clear hck h40
          cases T with
          | leaf p hh =>
            go_upto_region 17 with fail
            (refine wp_region_held_drew (S := (fun W => W.cell? ⟨b, 3, none⟩ = some (.pointer none))) (by kernel_rfl) HTR.out.c3 (fun hHeld => ?_))
            (refine wpAnyH_take (i := 0) (v := ?_) (by simp only [List.getElem?_toArray, List.getElem?_cons_zero]; rfl) (by kernel_rfl) (by kernel_rfl) (by kernel_rfl) (by exact fun _ _ _ h => h) (Or.inl ⟨by rfl, ?_⟩) hHeld ?_; rotate_left; (focus (intro w hSw; (try dsimp only at hSw); go_simp; all_goals with_reducible rfl)); (try simp only [Act.put, List.setIfInBounds_toArray, List.set_cons_zero, List.set_cons_succ])); (refine wpAnyH_take (i := 1) (v := ?_) (by simp only [List.getElem?_toArray, List.getElem?_cons_succ, List.getElem?_cons_zero]; rfl) (by kernel_rfl) (by kernel_rfl) (by kernel_rfl) (by exact fun _ _ _ h => h) (Or.inl ⟨by rfl, ?_⟩) hHeld ?_; rotate_left; (focus (intro w hSw; (try dsimp only at hSw); go_simp; all_goals with_reducible rfl)); (try simp only [Act.put, List.setIfInBounds_toArray, List.set_cons_zero, List.set_cons_succ])); (refine wpAnyH_take (i := 2) (v := ?_) (by simp only [List.getElem?_toArray, List.getElem?_cons_succ, List.getElem?_cons_zero]; rfl) (by kernel_rfl) (by kernel_rfl) (by kernel_rfl) (by exact fun _ _ _ h => h) (Or.inl ⟨by rfl, ?_⟩) hHeld ?_; rotate_left; (focus (intro w hSw; (try dsimp only at hSw); go_simp; all_goals with_reducible rfl)); (try simp only [Act.put, List.setIfInBounds_toArray, List.set_cons_zero, List.set_cons_succ])); (refine wpAnyH_take (i := 3) (v := ?_) (by simp only [List.getElem?_toArray, List.getElem?_cons_succ, List.getElem?_cons_zero]; rfl) (by kernel_rfl) (by kernel_rfl) (by kernel_rfl) (by exact fun _ _ _ h => h) (Or.inl ⟨by rfl, ?_⟩) hHeld ?_; rotate_left; (focus (intro w hSw; (try dsimp only at hSw); go_simp; all_goals with_reducible rfl)); (try simp only [Act.put, List.setIfInBounds_toArray, List.set_cons_zero, List.set_cons_succ]))
            (refine wpAnyH_ready (rs := [4]) (by kernel_rfl) (by simp) ?_; refine AllReadyH.cons (by simp only [List.getElem?_toArray, List.getElem?_cons_succ, List.getElem?_cons_zero]; rfl) (fun K hK => ?_) AllReadyH.nil; go_simp); (refine (Leaf_any _ b _ HTD.out).mono ?_; rintro e w7 ⟨rfl, rfl⟩; dsimp only [Tb.Tr.isLeaf]); (try go_wp2_with fail); (refine hK.out _ _ HTR.out.c3 (fun hHeld => ?_)); clear hK K; (try simp only [Act.put, List.setIfInBounds_toArray, List.set_cons_zero, List.set_cons_succ])
            (refine wpAnyH_take (i := 5) (v := ?_) (by simp only [List.getElem?_toArray, List.getElem?_cons_succ, List.getElem?_cons_zero]; rfl) (by kernel_rfl) (by kernel_rfl) (by kernel_rfl) (by exact fun _ _ _ h => h) (Or.inl ⟨by rfl, ?_⟩) hHeld ?_; rotate_left; (focus (intro w hSw; (try dsimp only at hSw); go_simp; all_goals with_reducible rfl)); (try simp only [Act.put, List.setIfInBounds_toArray, List.set_cons_zero, List.set_cons_succ])); (refine wpAnyH_take (i := 6) (v := ?_) (by simp only [List.getElem?_toArray, List.getElem?_cons_succ, List.getElem?_cons_zero]; rfl) (by kernel_rfl) (by kernel_rfl) (by kernel_rfl) (by exact fun _ _ _ h => h) (Or.inl ⟨by rfl, ?_⟩) hHeld ?_; rotate_left; (focus (intro w hSw; (try dsimp only at hSw); go_simp; all_goals with_reducible rfl)); (try simp only [Act.put, List.setIfInBounds_toArray, List.set_cons_zero, List.set_cons_succ])); (refine wpAnyH_take (i := 7) (v := undef) (by simp only [List.getElem?_toArray, List.getElem?_cons_succ, List.getElem?_cons_zero]; rfl) (by kernel_rfl) (by kernel_rfl) (by kernel_rfl) (by exact fun _ _ _ h => h) (Or.inr ⟨by rfl, rfl⟩) hHeld ?_; (try simp only [Act.put, List.setIfInBounds_toArray, List.set_cons_zero, List.set_cons_succ])); (refine wpAnyH_take (i := 8) (v := undef) (by simp only [List.getElem?_toArray, List.getElem?_cons_succ, List.getElem?_cons_zero]; rfl) (by kernel_rfl) (by kernel_rfl) (by kernel_rfl) (by exact fun _ _ _ h => h) (Or.inr ⟨by rfl, rfl⟩) hHeld ?_; (try simp only [Act.put, List.setIfInBounds_toArray, List.set_cons_zero, List.set_cons_succ])); (refine wpAnyH_take (i := 9) (v := undef) (by simp only [List.getElem?_toArray, List.getElem?_cons_succ, List.getElem?_cons_zero]; rfl) (by kernel_rfl) (by kernel_rfl) (by kernel_rfl) (by exact fun _ _ _ h => h) (Or.inr ⟨by rfl, rfl⟩) hHeld ?_; (try simp only [Act.put, List.setIfInBounds_toArray, List.set_cons_zero, List.set_cons_succ])); (refine wpAnyH_take (i := 10) (v := undef) (by simp only [List.getElem?_toArray, List.getElem?_cons_succ, List.getElem?_cons_zero]; rfl) (by kernel_rfl) (by kernel_rfl) (by kernel_rfl) (by exact fun _ _ _ h => h) (Or.inr ⟨by rfl, rfl⟩) hHeld ?_; (try simp only [Act.put, List.setIfInBounds_toArray, List.set_cons_zero, List.set_cons_succ])); (refine wpAnyH_take (i := 11) (v := undef) (by simp only [List.getElem?_toArray, List.getElem?_cons_succ, List.getElem?_cons_zero]; rfl) (by kernel_rfl) (by kernel_rfl) (by kernel_rfl) (by exact fun _ _ _ h => h) (Or.inr ⟨by rfl, rfl⟩) hHeld ?_; (try simp only [Act.put, List.setIfInBounds_toArray, List.set_cons_zero, List.set_cons_succ])); (refine wpAnyH_take (i := 12) (v := undef) (by simp only [List.getElem?_toArray, List.getElem?_cons_succ, List.getElem?_cons_zero]; rfl) (by kernel_rfl) (by kernel_rfl) (by kernel_rfl) (by exact fun _ _ _ h => h) (Or.inr ⟨by rfl, rfl⟩) hHeld ?_; (try simp only [Act.put, List.setIfInBounds_toArray, List.set_cons_zero, List.set_cons_succ])); (refine wpAnyH_take (i := 13) (v := undef) (by simp only [List.getElem?_toArray, List.getElem?_cons_succ, List.getElem?_cons_zero]; rfl) (by kernel_rfl) (by kernel_rfl) (by kernel_rfl) (by exact fun _ _ _ h => h) (Or.inr ⟨by rfl, rfl⟩) hHeld ?_; (try simp only [Act.put, List.setIfInBounds_toArray, List.set_cons_zero, List.set_cons_succ])); (refine wpAnyH_take (i := 14) (v := undef) (by simp only [List.getElem?_toArray, List.getElem?_cons_succ, List.getElem?_cons_zero]; rfl) (by kernel_rfl) (by kernel_rfl) (by kernel_rfl) (by exact fun _ _ _ h => h) (Or.inr ⟨by rfl, rfl⟩) hHeld ?_; (try simp only [Act.put, List.setIfInBounds_toArray, List.set_cons_zero, List.set_cons_succ])); (refine wpAnyH_take (i := 15) (v := undef) (by simp only [List.getElem?_toArray, List.getElem?_cons_succ, List.getElem?_cons_zero]; rfl) (by kernel_rfl) (by kernel_rfl) (by kernel_rfl) (by exact fun _ _ _ h => h) (Or.inr ⟨by rfl, rfl⟩) hHeld ?_; (try simp only [Act.put, List.setIfInBounds_toArray, List.set_cons_zero, List.set_cons_succ])); (refine wpAnyH_take (i := 16) (v := undef) (by simp only [List.getElem?_toArray, List.getElem?_cons_succ, List.getElem?_cons_zero]; rfl) (by kernel_rfl) (by kernel_rfl) (by kernel_rfl) (by exact fun _ _ _ h => h) (Or.inr ⟨by rfl, rfl⟩) hHeld ?_; (try simp only [Act.put, List.setIfInBounds_toArray, List.set_cons_zero, List.set_cons_succ])); (refine wpAnyH_take (i := 17) (v := undef) (by simp only [List.getElem?_toArray, List.getElem?_cons_succ, List.getElem?_cons_zero]; rfl) (by kernel_rfl) (by kernel_rfl) (by kernel_rfl) (by exact fun _ _ _ h => h) (Or.inr ⟨by rfl, rfl⟩) hHeld ?_; (try simp only [Act.put, List.setIfInBounds_toArray, List.set_cons_zero, List.set_cons_succ])); (refine wpAnyH_take (i := 18) (v := undef) (by simp only [List.getElem?_toArray, List.getElem?_cons_succ, List.getElem?_cons_zero]; rfl) (by kernel_rfl) (by kernel_rfl) (by kernel_rfl) (by exact fun _ _ _ h => h) (Or.inr ⟨by rfl, rfl⟩) hHeld ?_; (try simp only [Act.put, List.setIfInBounds_toArray, List.set_cons_zero, List.set_cons_succ])); (refine wpAnyH_take (i := 19) (v := undef) (by simp only [List.getElem?_toArray, List.getElem?_cons_succ, List.getElem?_cons_zero]; rfl) (by kernel_rfl) (by kernel_rfl) (by kernel_rfl) (by exact fun _ _ _ h => h) (Or.inr ⟨by rfl, rfl⟩) hHeld ?_; (try simp only [Act.put, List.setIfInBounds_toArray, List.set_cons_zero, List.set_cons_succ])); (refine wpAnyH_take (i := 20) (v := undef) (by simp only [List.getElem?_toArray, List.getElem?_cons_succ, List.getElem?_cons_zero]; rfl) (by kernel_rfl) (by kernel_rfl) (by kernel_rfl) (by exact fun _ _ _ h => h) (Or.inr ⟨by rfl, rfl⟩) hHeld ?_; (try simp only [Act.put, List.setIfInBounds_toArray, List.set_cons_zero, List.set_cons_succ])); (refine wpAnyH_take (i := 21) (v := ?_) (by simp only [List.getElem?_toArray, List.getElem?_cons_succ, List.getElem?_cons_zero]; rfl) (by kernel_rfl) (by kernel_rfl) (by kernel_rfl) (by exact fun _ _ _ h => h) (Or.inl ⟨by rfl, ?_⟩) hHeld ?_; rotate_left; (focus (intro w hSw; (try dsimp only at hSw); go_simp; all_goals with_reducible rfl)); (try simp only [Act.put, List.setIfInBounds_toArray, List.set_cons_zero, List.set_cons_succ])); (refine wpAnyH_take (i := 22) (v := ?_) (by simp only [List.getElem?_toArray, List.getElem?_cons_succ, List.getElem?_cons_zero]; rfl) (by kernel_rfl) (by kernel_rfl) (by kernel_rfl) (by exact fun _ _ _ h => h) (Or.inl ⟨by rfl, ?_⟩) hHeld ?_; rotate_left; (focus (intro w hSw; (try dsimp only at hSw); go_simp; all_goals with_reducible rfl)); (try simp only [Act.put, List.setIfInBounds_toArray, List.set_cons_zero, List.set_cons_succ]))
            (refine wpAnyH_done (by kernel_rfl) ?_ _)
            go_upto_region 19 with fail
            refine wp_name fun w9 hw9 => ?_
            have hF9 : Fr NoB wr w9 := by rw [hw9]; (repeat (first | exact Fr.refl _ _ | refine Fr.alloc ?_ _ | refine Fr.setNew ?_ (by omega) _ _ | refine Fr.drewN ?_ _ | refine Fr.drew ?_))
            have HG9 := Lib.hid (hf.out.trans hF9)
            clear hw9 hF9
            go_wp2_with fail
            refine (AllOf_any ya yc (Tb.leaves (.leaf p hh)) _ HLN.out (HY.out.keep0 HG9.out)).mono ?_
            rintro e x1 ⟨gA, rfl, _, hrA, hf⟩
            have GF1 := Lib.hid (HG9.out.trans hf)
            have rA := Lib.hid hrA
            clear hf hrA
            go_wp2_with fail
            refine (AllOf_any ra rc L _ HL.out (HA3.out.rs.keep0 (HF5.out.trans GF1.out))).mono ?_
            rintro e x2 ⟨gB, rfl, _, hrB, hf⟩
            have GF2 := Lib.hid (GF1.out.trans hf)
            have rB := Lib.hid hrB
            have rA := Lib.hid (hf.row rA.out (fun h => h))
            clear hf hrB
            go_wp2_with fail
            refine (SameInts_fr (some ⟨gA, 0, none⟩) (some ⟨gB, 0, none⟩) 256 256 256 256 _ _ _ (by omega) (by omega) (Rd.row rA.out) (Rd.row rB.out)).mono ?_
            rintro e x3 ⟨r2, rfl, hr2, hf⟩
            obtain rfl := hr2.2 ⟨rfl, fun k hk => HALL.out k hk⟩
            have GF3 := Lib.hid (GF2.out.trans hf)
            clear hf hr2
            go_wp2_with fail
            refine (Check_all ya yc (Tb.leaves (.leaf p hh)) _ (HY.out.keep0 GF3.out)).mono ?_
            rw [HCK.out]
            rintro e x4 ⟨rfl, hf⟩
            have HFE := Lib.hid (HF3.out.trans (HF5.out.trans (GF3.out.trans hf)))
            clear hf
            go_wp2
            go_ret
            exact ⟨by simp, HFE.out⟩
          | node p tl tr =>
            obtain ⟨bl, br, hn, htl, htr⟩ := HTR.out
            have c3 := hn.c3
            have c4 := hn.c4
            have elen : (Tb.leaves (.node p tl tr)).length = (Tb.leaves tl).length + (Tb.leaves tr).length := by show (Tb.leaves tl ++ Tb.leaves tr).length = _; rw [List.length_append]
            have hs0 := fun W (hW : Fr NoB wr W) => size_any _ b W (HTR.out.keep0 hW) HLN.out
            have hs1 := fun W (hW : Fr NoB wr W) => size_any tl bl W (htl.keep0 hW) (by have := HLN.out; omega)
            have hs2 := fun W (hW : Fr NoB wr W) => size_any tr br W (htr.keep0 hW) (by have := HLN.out; omega)
            have ecast : (((Tb.leaves (.node p tl tr)).length : Nat) : Int) = ((Tb.leaves tl).length : Int) + ((Tb.leaves tr).length : Int) := by omega
            rw [ecast] at hs0
            have hsum := IntWalk.i64_in (((Tb.leaves tl).length : Int) + ((Tb.leaves tr).length : Int)) (by omega)
            have hsum1 : ((((Tb.leaves tl).length : Int) + ((Tb.leaves tr).length : Int)) != (((Tb.leaves tl).length : Int) + ((Tb.leaves tr).length : Int))) = false := by simp
            have HS0 := Lib.hid hs0; clear hs0; have HS1 := Lib.hid hs1; clear hs1; have HS2 := Lib.hid hs2; clear hs2
            have HW := Lib.hid (Fr.drew (Fr.refl NoB wr))
            clear hn htl htr elen ecast
            go_upto_region 17 with fail
            (refine wp_region_held_drew (S := (fun W => W.cell? ⟨b, 3, none⟩ = some (.pointer (some ⟨bl, 0, none⟩)) ∧ W.cell? ⟨b, 4, none⟩ = some (.pointer (some ⟨br, 0, none⟩)))) (by kernel_rfl) ⟨c3, c4⟩ (fun hHeld => ?_))
            (refine wpAnyH_take (i := 0) (v := ?_) (by simp only [List.getElem?_toArray, List.getElem?_cons_zero]; rfl) (by kernel_rfl) (by kernel_rfl) (by kernel_rfl) (by exact fun _ _ _ h => h) (Or.inl ⟨by rfl, ?_⟩) hHeld ?_; rotate_left; (focus (intro w hSw; (try dsimp only at hSw); go_simp; all_goals with_reducible rfl)); (try simp only [Act.put, List.setIfInBounds_toArray, List.set_cons_zero, List.set_cons_succ])); (refine wpAnyH_take (i := 1) (v := ?_) (by simp only [List.getElem?_toArray, List.getElem?_cons_succ, List.getElem?_cons_zero]; rfl) (by kernel_rfl) (by kernel_rfl) (by kernel_rfl) (by exact fun _ _ _ h => h) (Or.inl ⟨by rfl, ?_⟩) hHeld ?_; rotate_left; (focus (intro w hSw; (try dsimp only at hSw); go_simp; all_goals with_reducible rfl)); (try simp only [Act.put, List.setIfInBounds_toArray, List.set_cons_zero, List.set_cons_succ])); (refine wpAnyH_take (i := 2) (v := ?_) (by simp only [List.getElem?_toArray, List.getElem?_cons_succ, List.getElem?_cons_zero]; rfl) (by kernel_rfl) (by kernel_rfl) (by kernel_rfl) (by exact fun _ _ _ h => h) (Or.inl ⟨by rfl, ?_⟩) hHeld ?_; rotate_left; (focus (intro w hSw; (try dsimp only at hSw); go_simp; all_goals with_reducible rfl)); (try simp only [Act.put, List.setIfInBounds_toArray, List.set_cons_zero, List.set_cons_succ])); (refine wpAnyH_take (i := 3) (v := ?_) (by simp only [List.getElem?_toArray, List.getElem?_cons_succ, List.getElem?_cons_zero]; rfl) (by kernel_rfl) (by kernel_rfl) (by kernel_rfl) (by exact fun _ _ _ h => h) (Or.inl ⟨by rfl, ?_⟩) hHeld ?_; rotate_left; (focus (intro w hSw; (try dsimp only at hSw); go_simp; all_goals with_reducible rfl)); (try simp only [Act.put, List.setIfInBounds_toArray, List.set_cons_zero, List.set_cons_succ]))
            (refine wpAnyH_ready (rs := [4]) (by kernel_rfl) (by simp) ?_; refine AllReadyH.cons (by simp only [List.getElem?_toArray, List.getElem?_cons_succ, List.getElem?_cons_zero]; rfl) (fun K hK => ?_) AllReadyH.nil; go_simp); (refine (Leaf_any _ b _ HTD.out).mono ?_; rintro e w7 ⟨rfl, rfl⟩; dsimp only [Tb.Tr.isLeaf]); (try go_wp2_with fail); (refine hK.out _ _ ⟨c3, c4⟩ (fun hHeld => ?_)); clear hK K; (try simp only [Act.put, List.setIfInBounds_toArray, List.set_cons_zero, List.set_cons_succ])
            (refine wpAnyH_take (i := 5) (v := ?_) (by simp only [List.getElem?_toArray, List.getElem?_cons_succ, List.getElem?_cons_zero]; rfl) (by kernel_rfl) (by kernel_rfl) (by kernel_rfl) (by exact fun _ _ _ h => h) (Or.inl ⟨by rfl, ?_⟩) hHeld ?_; rotate_left; (focus (intro w hSw; (try dsimp only at hSw); go_simp; all_goals with_reducible rfl)); (try simp only [Act.put, List.setIfInBounds_toArray, List.set_cons_zero, List.set_cons_succ])); (refine wpAnyH_take (i := 6) (v := ?_) (by simp only [List.getElem?_toArray, List.getElem?_cons_succ, List.getElem?_cons_zero]; rfl) (by kernel_rfl) (by kernel_rfl) (by kernel_rfl) (by exact fun _ _ _ h => h) (Or.inl ⟨by rfl, ?_⟩) hHeld ?_; rotate_left; (focus (intro w hSw; (try dsimp only at hSw); go_simp; all_goals with_reducible rfl)); (try simp only [Act.put, List.setIfInBounds_toArray, List.set_cons_zero, List.set_cons_succ])); (refine wpAnyH_take (i := 7) (v := ?_) (by simp only [List.getElem?_toArray, List.getElem?_cons_succ, List.getElem?_cons_zero]; rfl) (by kernel_rfl) (by kernel_rfl) (by kernel_rfl) (by exact fun _ _ _ h => h) (Or.inl ⟨by rfl, ?_⟩) hHeld ?_; rotate_left; (focus (intro w hSw; (try dsimp only at hSw); go_simp; all_goals with_reducible rfl)); (try simp only [Act.put, List.setIfInBounds_toArray, List.set_cons_zero, List.set_cons_succ])); (refine wpAnyH_take (i := 9) (v := ?_) (by simp only [List.getElem?_toArray, List.getElem?_cons_succ, List.getElem?_cons_zero]; rfl) (by kernel_rfl) (by kernel_rfl) (by kernel_rfl) (by exact fun _ _ _ h => h) (Or.inl ⟨by rfl, ?_⟩) hHeld ?_; rotate_left; (focus (intro w hSw; (try dsimp only at hSw); go_simp; all_goals with_reducible rfl)); (try simp only [Act.put, List.setIfInBounds_toArray, List.set_cons_zero, List.set_cons_succ])); (refine wpAnyH_take (i := 10) (v := ?_) (by simp only [List.getElem?_toArray, List.getElem?_cons_succ, List.getElem?_cons_zero]; rfl) (by kernel_rfl) (by kernel_rfl) (by kernel_rfl) (by exact fun _ _ _ h => h) (Or.inl ⟨by rfl, ?_⟩) hHeld ?_; rotate_left; (focus (intro w hSw; (try dsimp only at hSw); go_simp; all_goals with_reducible rfl)); (try simp only [Act.put, List.setIfInBounds_toArray, List.set_cons_zero, List.set_cons_succ])); (refine wpAnyH_take (i := 11) (v := ?_) (by simp only [List.getElem?_toArray, List.getElem?_cons_succ, List.getElem?_cons_zero]; rfl) (by kernel_rfl) (by kernel_rfl) (by kernel_rfl) (by exact fun _ _ _ h => h) (Or.inl ⟨by rfl, ?_⟩) hHeld ?_; rotate_left; (focus (intro w hSw; (try dsimp only at hSw); go_simp; all_goals with_reducible rfl)); (try simp only [Act.put, List.setIfInBounds_toArray, List.set_cons_zero, List.set_cons_succ])); (refine wpAnyH_take (i := 12) (v := ?_) (by simp only [List.getElem?_toArray, List.getElem?_cons_succ, List.getElem?_cons_zero]; rfl) (by kernel_rfl) (by kernel_rfl) (by kernel_rfl) (by exact fun _ _ _ h => h) (Or.inl ⟨by rfl, ?_⟩) hHeld ?_; rotate_left; (focus (intro w hSw; (try dsimp only at hSw); go_simp; all_goals with_reducible rfl)); (try simp only [Act.put, List.setIfInBounds_toArray, List.set_cons_zero, List.set_cons_succ])); (refine wpAnyH_take (i := 14) (v := ?_) (by simp only [List.getElem?_toArray, List.getElem?_cons_succ, List.getElem?_cons_zero]; rfl) (by kernel_rfl) (by kernel_rfl) (by kernel_rfl) (by exact fun _ _ _ h => h) (Or.inl ⟨by rfl, ?_⟩) hHeld ?_; rotate_left; (focus (intro w hSw; (try dsimp only at hSw); go_simp; all_goals with_reducible rfl)); (try simp only [Act.put, List.setIfInBounds_toArray, List.set_cons_zero, List.set_cons_succ])); (refine wpAnyH_take (i := 15) (v := ?_) (by simp only [List.getElem?_toArray, List.getElem?_cons_succ, List.getElem?_cons_zero]; rfl) (by kernel_rfl) (by kernel_rfl) (by kernel_rfl) (by exact fun _ _ _ h => h) (Or.inl ⟨by rfl, ?_⟩) hHeld ?_; rotate_left; (focus (intro w hSw; (try dsimp only at hSw); go_simp; all_goals with_reducible rfl)); (try simp only [Act.put, List.setIfInBounds_toArray, List.set_cons_zero, List.set_cons_succ])); (refine wpAnyH_take (i := 16) (v := ?_) (by simp only [List.getElem?_toArray, List.getElem?_cons_succ, List.getElem?_cons_zero]; rfl) (by kernel_rfl) (by kernel_rfl) (by kernel_rfl) (by exact fun _ _ _ h => h) (Or.inl ⟨by rfl, ?_⟩) hHeld ?_; rotate_left; (focus (intro w hSw; (try dsimp only at hSw); go_simp; all_goals with_reducible rfl)); (try simp only [Act.put, List.setIfInBounds_toArray, List.set_cons_zero, List.set_cons_succ])); (refine wpAnyH_take (i := 17) (v := ?_) (by simp only [List.getElem?_toArray, List.getElem?_cons_succ, List.getElem?_cons_zero]; rfl) (by kernel_rfl) (by kernel_rfl) (by kernel_rfl) (by exact fun _ _ _ h => h) (Or.inl ⟨by rfl, ?_⟩) hHeld ?_; rotate_left; (focus (intro w hSw; (try dsimp only at hSw); go_simp; all_goals with_reducible rfl)); (try simp only [Act.put, List.setIfInBounds_toArray, List.set_cons_zero, List.set_cons_succ]))
            (refine wpAnyH_ready (rs := [8]) (by kernel_rfl) (by simp) ?_; refine AllReadyH.cons (by simp only [List.getElem?_toArray, List.getElem?_cons_succ, List.getElem?_cons_zero]; rfl) (fun K hK => ?_) AllReadyH.nil; go_simp); (refine (HS0.out _ HW.out).mono ?_; rintro e y1 ⟨rfl, hf2⟩; replace c3 := cell_fr' hf2 c3 (fun h => h); replace c4 := cell_fr' hf2 c4 (fun h => h); have HW1 := Lib.hid (HW.out.trans hf2); clear hf2); (try go_wp2_with fail); (refine hK.out _ _ ⟨c3, c4⟩ (fun hHeld => ?_)); clear hK K; (try simp only [Act.put, List.setIfInBounds_toArray, List.set_cons_zero, List.set_cons_succ])
            (refine wpAnyH_ready (rs := [13]) (by kernel_rfl) (by simp) ?_; refine AllReadyH.cons (by simp only [List.getElem?_toArray, List.getElem?_cons_succ, List.getElem?_cons_zero]; rfl) (fun K hK => ?_) AllReadyH.nil; go_simp); (refine (HS1.out _ HW1.out).mono ?_; rintro e y2 ⟨rfl, hf2⟩; replace c3 := cell_fr' hf2 c3 (fun h => h); replace c4 := cell_fr' hf2 c4 (fun h => h); have HW2 := Lib.hid (HW1.out.trans hf2); clear hf2); (try go_wp2_with fail); (refine hK.out _ _ ⟨c3, c4⟩ (fun hHeld => ?_)); clear hK K; (try simp only [Act.put, List.setIfInBounds_toArray, List.set_cons_zero, List.set_cons_succ])
            (refine wpAnyH_ready (rs := [18]) (by kernel_rfl) (by simp) ?_; refine AllReadyH.cons (by simp only [List.getElem?_toArray, List.getElem?_cons_succ, List.getElem?_cons_zero]; rfl) (fun K hK => ?_) AllReadyH.nil; go_simp); (refine (HS2.out _ HW2.out).mono ?_; rintro e y3 ⟨rfl, hf2⟩; replace c3 := cell_fr' hf2 c3 (fun h => h); replace c4 := cell_fr' hf2 c4 (fun h => h); have HW3 := Lib.hid (HW2.out.trans hf2); clear hf2); (try go_wp2_with fail); (refine hK.out _ _ ⟨c3, c4⟩ (fun hHeld => ?_)); clear hK K; (try simp only [Act.put, List.setIfInBounds_toArray, List.set_cons_zero, List.set_cons_succ])
            (refine wpAnyH_take (i := 19) (v := ?_) (by simp only [List.getElem?_toArray, List.getElem?_cons_succ, List.getElem?_cons_zero]; rfl) (by kernel_rfl) (by kernel_rfl) (by kernel_rfl) (by exact fun _ _ _ h => h) (Or.inl ⟨by rfl, ?_⟩) hHeld ?_; rotate_left; (focus (intro w hSw; (try dsimp only at hSw); go_simp; all_goals with_reducible rfl)); (try simp only [Act.put, List.setIfInBounds_toArray, List.set_cons_zero, List.set_cons_succ])); (refine wpAnyH_take (i := 20) (v := ?_) (by simp only [List.getElem?_toArray, List.getElem?_cons_succ, List.getElem?_cons_zero]; rfl) (by kernel_rfl) (by kernel_rfl) (by kernel_rfl) (by exact fun _ _ _ h => h) (Or.inl ⟨by rfl, ?_⟩) hHeld ?_; rotate_left; (focus (intro w hSw; (try dsimp only at hSw); go_simp; all_goals with_reducible rfl)); (try simp only [Act.put, List.setIfInBounds_toArray, List.set_cons_zero, List.set_cons_succ])); (refine wpAnyH_take (i := 21) (v := ?_) (by simp only [List.getElem?_toArray, List.getElem?_cons_succ, List.getElem?_cons_zero]; rfl) (by kernel_rfl) (by kernel_rfl) (by kernel_rfl) (by exact fun _ _ _ h => h) (Or.inl ⟨by rfl, ?_⟩) hHeld ?_; rotate_left; (focus (intro w hSw; (try dsimp only at hSw); go_simp; all_goals with_reducible rfl)); (try simp only [Act.put, List.setIfInBounds_toArray, List.set_cons_zero, List.set_cons_succ])); (refine wpAnyH_take (i := 22) (v := ?_) (by simp only [List.getElem?_toArray, List.getElem?_cons_succ, List.getElem?_cons_zero]; rfl) (by kernel_rfl) (by kernel_rfl) (by kernel_rfl) (by exact fun _ _ _ h => h) (Or.inl ⟨by rfl, ?_⟩) hHeld ?_; rotate_left; (focus (intro w hSw; (try dsimp only at hSw); go_simp; all_goals with_reducible rfl)); (try simp only [Act.put, List.setIfInBounds_toArray, List.set_cons_zero, List.set_cons_succ]))
            (refine wpAnyH_done (by kernel_rfl) ?_ _)
            go_upto_region 19 with fail
            refine wp_name fun w9 hw9 => ?_
            have hF9 : Fr NoB y3 w9 := by rw [hw9]; (repeat (first | exact Fr.refl _ _ | refine Fr.alloc ?_ _ | refine Fr.setNew ?_ (by omega) _ _ | refine Fr.drewN ?_ _ | refine Fr.drew ?_))
            have HG9 := Lib.hid (hf.out.trans (HW3.out.trans hF9))
            clear hw9 hF9
            go_wp2_with fail
            refine (AllOf_any ya yc (Tb.leaves (.node p tl tr)) _ HLN.out (HY.out.keep0 HG9.out)).mono ?_
            rintro e x1 ⟨gA, rfl, _, hrA, hf⟩
            have GF1 := Lib.hid (HG9.out.trans hf)
            have rA := Lib.hid hrA
            clear hf hrA
            go_wp2_with fail
            refine (AllOf_any ra rc L _ HL.out (HA3.out.rs.keep0 (HF5.out.trans GF1.out))).mono ?_
            rintro e x2 ⟨gB, rfl, _, hrB, hf⟩
            have GF2 := Lib.hid (GF1.out.trans hf)
            have rB := Lib.hid hrB
            have rA := Lib.hid (hf.row rA.out (fun h => h))
            clear hf hrB
            go_wp2_with fail
            refine (SameInts_fr (some ⟨gA, 0, none⟩) (some ⟨gB, 0, none⟩) 256 256 256 256 _ _ _ (by omega) (by omega) (Rd.row rA.out) (Rd.row rB.out)).mono ?_
            rintro e x3 ⟨r2, rfl, hr2, hf⟩
            obtain rfl := hr2.2 ⟨rfl, fun k hk => HALL.out k hk⟩
            have GF3 := Lib.hid (GF2.out.trans hf)
            clear hf hr2
            go_wp2_with fail
            refine (Check_all ya yc (Tb.leaves (.node p tl tr)) _ (HY.out.keep0 GF3.out)).mono ?_
            rw [HCK.out]
            rintro e x4 ⟨rfl, hf⟩
            have HFE := Lib.hid (HF3.out.trans (HF5.out.trans (GF3.out.trans hf)))
            clear hf
            go_wp2
            go_ret
            exact ⟨by simp, HFE.out⟩

theorem TrieOrder_all (a0 : Option Addr) (n0 c0 : Nat) (X0 : Nat → Int) (a1 : Int) (w : World) (r0 : Rd w a0 (n0 * 3) X0) :
    Calls Try.prog 9 #[.slice a0 n0 c0, .int .i64 a1] w (TrueFr w) := by
  obtain ⟨S, rfl, hS⟩ := rs_of_rd r0
  exact walk_any a0 c0 S a1 w hS
end Go.Proofs.Ytglngngcohcmfaa.lawTrieOrder
