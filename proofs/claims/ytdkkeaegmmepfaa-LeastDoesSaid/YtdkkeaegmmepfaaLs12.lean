/- Walks: changes that are read; least.Do. -/
import Derived.Test.YtdkkeaegmmepfaaLs10
import Derived.Test.YtdkkeaegmmepfaaLsMath9
import Derived.Test.YtdkkeaegmmepfaaTb23
namespace Go.Proofs.Ytdkkeaegmmepfaa
open Go.RowKit Go.Deep

/-- Changes from an address on. -/
def Cs (w : World) (a : Option Addr) (D : List Tb.Ch) : Prop := ∀ k, k < D.length → ∃ b off, a = some ⟨b, off, none⟩ ∧
  w.cell? ⟨b, off + k * 4, none⟩ = some (.int .i64 (Tb.nthC D k).p.len) ∧ w.cell? ⟨b, off + k * 4 + 1, none⟩ = some (.int .i64 (Tb.nthC D k).p.bits) ∧
  w.cell? ⟨b, off + k * 4 + 2, none⟩ = some (.int .i64 (Tb.nthC D k).old) ∧ w.cell? ⟨b, off + k * 4 + 3, none⟩ = some (.int .i64 (Tb.nthC D k).new)
theorem Cs.keep {S : Nat → Prop} {w w' : World} {a : Option Addr} {D : List Tb.Ch} (h : Cs w a D) (hf : Fr S w w') (hS : ∀ p, a = some p → ¬ S p.block) : Cs w' a D := by
  intro k hk
  obtain ⟨b, off, rfl, h2, h3, h4, h5⟩ := h k hk
  have hb := hS _ rfl
  exact ⟨b, off, rfl, cell_fr' hf h2 hb, cell_fr' hf h3 hb, cell_fr' hf h4 hb, cell_fr' hf h5 hb⟩
theorem Cs.keep0 {w w' : World} {a : Option Addr} {D : List Tb.Ch} (h : Cs w a D) (hf : Fr NoB w w') : Cs w' a D := h.keep hf (fun _ _ h => h)
theorem Cs.keepS {t : Nat} {v : Value} {w w' : World} {a : Option Addr} {D : List Tb.Ch} (h : Cs w a D) (hf : Fr (TB t v) w w') (hs : D ≠ [] → Sep w t v a) : Cs w' a D := by
  cases D with
  | nil => exact fun k hk => absurd hk (by simp)
  | cons x T => exact h.keep hf (fun p hp => (hs (by simp) p hp).1)
theorem Cs.of_rd {w : World} {a : Option Addr} {D : List Tb.Ch} {X : Nat → Int} (h : Rd w a (D.length * 4) X) (hX : ∀ k, k < D.length → X (k * 4) = (Tb.nthC D k).p.len ∧ X (k * 4 + 1) = (Tb.nthC D k).p.bits ∧ X (k * 4 + 2) = (Tb.nthC D k).old ∧ X (k * 4 + 3) = (Tb.nthC D k).new) : Cs w a D := by
  intro k hk
  obtain ⟨b0, o0, h1, c0⟩ := h (k * 4) (by omega)
  obtain ⟨b1, o1, h2, c1⟩ := h (k * 4 + 1) (by omega)
  obtain ⟨b2, o2, h3, c2⟩ := h (k * 4 + 2) (by omega)
  obtain ⟨b3, o3, h4, c3⟩ := h (k * 4 + 3) (by omega)
  rw [h1] at h2 h3 h4
  cases h2; cases h3; cases h4
  obtain ⟨e0, e1, e2, e3⟩ := hX k hk
  rw [e0] at c0
  rw [e1] at c1
  rw [e2] at c2
  rw [e3] at c3
  exact ⟨b0, o0, h1, c0, c1, c2, c3⟩
theorem SlC.cs {w : World} {base : Nat} {v : Value} {D : List Tb.Ch} (h : SlC w base v D) :
    ∃ a cap, v = .slice a D.length cap ∧ Cs w a D ∧ (∀ p, a = some p → base ≤ p.block ∧ p.block < w.heap.size) := by
  obtain ⟨a, cap, rfl, hr, hb, _, hn, _, hz⟩ := ownsRow_rd h
  refine ⟨a, cap, rfl, Cs.of_rd hr (fun k hk => chI_at D k hk), fun p hp => ⟨hb p hp, ?_⟩⟩
  refine (World.ownsRow.lt h _ ?_).2
  subst hp
  rw [hz p rfl]
  rfl
theorem cs_of_rd {w : World} {a : Option Addr} {n : Nat} {X : Nat → Int} (h : Rd w a (n * 4) X) : ∃ D : List Tb.Ch, D.length = n ∧ Cs w a D := by
  refine ⟨(List.range n).map fun (k : Nat) => ⟨⟨X (k * 4), X (k * 4 + 1)⟩, X (k * 4 + 2), X (k * 4 + 3)⟩, by simp, ?_⟩
  have hl : ((List.range n).map fun (k : Nat) => (⟨⟨X (k * 4), X (k * 4 + 1)⟩, X (k * 4 + 2), X (k * 4 + 3)⟩ : Tb.Ch)).length = n := by simp
  refine Cs.of_rd (X := X) (by rw [hl]; exact h) (fun k hk => ?_)
  rw [hl] at hk
  have e : Tb.nthC ((List.range n).map fun (k : Nat) => (⟨⟨X (k * 4), X (k * 4 + 1)⟩, X (k * 4 + 2), X (k * 4 + 3)⟩ : Tb.Ch)) k = ⟨⟨X (k * 4), X (k * 4 + 1)⟩, X (k * 4 + 2), X (k * 4 + 3)⟩ := by
    unfold Tb.nthC
    rw [List.getD_eq_getElem?_getD, List.getElem?_map, List.getElem?_range hk]
    rfl
  rw [e]
  exact ⟨rfl, rfl, rfl, rfl⟩
/-- What stands while Do runs. -/
structure DoAt (w : World) (t : Nat) (v : Value) (a : Option Addr) (D : List Tb.Ch) (bb : Nat) (wr : World) (v' : Value) (M : List Tb.Rt) : Prop where
  at_ : TAt wr t v' M
  f : Fr (TB t v) w wr
  o : ∀ g, v'.ownBlock = some g → v.ownBlock = some g ∨ w.heap.size ≤ g
  sa : D ≠ [] → Sep wr t v' a
  ra : Cs wr a D
  sb : ¬ TB t v' bb ∧ bb < wr.heap.size
  b0 : wr.cell? ⟨bb, 0, none⟩ = some (.bool true)
  b1 : wr.cell? ⟨bb, 1, none⟩ = some (.bool false)
  wf : Tb.Wf M
  len : M.length ≤ 40
theorem DoAt.keep0 {w : World} {t : Nat} {v : Value} {a : Option Addr} {D : List Tb.Ch} {bb : Nat} {wr wx : World} {v' : Value} {M : List Tb.Rt} (h : DoAt w t v a D bb wr v' M) (hf : Fr NoB wr wx) : DoAt w t v a D bb wx v' M :=
  ⟨h.at_.keep0 hf, h.f.trans' hf (fun _ _ k => k.elim), h.o, fun n => (h.sa n).keep0 hf, h.ra.keep0 hf, ⟨h.sb.1, Nat.lt_of_lt_of_le h.sb.2 hf.size⟩, cell_fr' hf h.b0 (fun h => h), cell_fr' hf h.b1 (fun h => h), h.wf, h.len⟩
theorem DoAt.set {w : World} {t : Nat} {v : Value} {a : Option Addr} {D : List Tb.Ch} {bb : Nat} {wr wx : World} {v' v'' : Value} {M M' : List Tb.Rt} (h : DoAt w t v a D bb wr v' M) (hT : TAt wx t v'' M') (hf : Fr (TB t v') wr wx)
    (ho : ∀ g, v''.ownBlock = some g → v'.ownBlock = some g ∨ wr.heap.size ≤ g) (hw : Tb.Wf M') (hl : M'.length ≤ 40) : DoAt w t v a D bb wx v'' M' := by
  refine ⟨hT, h.f.trans' hf (fun i hi k => ?_), fun g hg => ?_, fun n => (h.sa n).set hf ho, h.ra.keepS hf h.sa, ⟨?_, Nat.lt_of_lt_of_le h.sb.2 hf.size⟩, cell_fr' hf h.b0 h.sb.1, cell_fr' hf h.b1 h.sb.1, hw, hl⟩
  · rcases k with k | k
    · exact .inl k
    · rcases h.o i k with k | k
      · exact .inr k
      · omega
  · rcases ho g hg with k | k
    · exact h.o g k
    · right; have := h.f.size; omega
  · rintro (e | e)
    · exact h.sb.1 (.inl e)
    · rcases ho _ e with k | k
      · exact h.sb.1 (.inr k)
      · have := h.sb.2; omega
def DoPost (t : Nat) (v : Value) (Z : List Tb.Rt × Int) (w : World) (e : Ending) (w' : World) : Prop :=
  e = .returned (.int .i64 Z.2) ∧ ∃ v', TAt w' t v' Z.1 ∧ Fr (TB t v) w w' ∧ ∀ g, v'.ownBlock = some g → v.ownBlock = some g ∨ w.heap.size ≤ g
theorem DoAt.post {w : World} {t : Nat} {v : Value} {a : Option Addr} {D : List Tb.Ch} {bb : Nat} {wr : World} {v' : Value} {M : List Tb.Rt} {e : Int} {Z : List Tb.Rt × Int} (h : DoAt w t v a D bb wr v' M) (hZ : Z = (M, e)) : DoPost t v Z w (.returned (.int .i64 e)) wr := by
  subst hZ
  exact ⟨rfl, v', h.at_, h.f, h.o⟩
def DoRel (w : World) (t : Nat) (v : Value) (a : Option Addr) (D : List Tb.Ch) (bb : Nat) (Z : List Tb.Rt × Int) (i : Value) (wr : World) : Prop :=
  ∃ k : Nat, k ≤ 2 ∧ i = .int .i64 k ∧ Hid (∃ v' M, DoAt w t v a D bb wr v' M ∧ Tb.rest D k M = Z)
def DoRel2 (w : World) (t : Nat) (v : Value) (a : Option Addr) (D : List Tb.Ch) (bb : Nat) (Z : List Tb.Rt × Int) (k : Nat) (aw : Bool) (i : Value) (wr : World) : Prop :=
  ∃ j : Nat, j ≤ D.length ∧ i = .int .i64 j ∧ Hid (∃ v' M, DoAt w t v a D bb wr v' M ∧ Tb.fin D k (Tb.pass aw (D.drop j) M) = Z)
set_option maxRecDepth 100000 in
set_option maxHeartbeats 16000000 in
theorem Do_any (t : Nat) (v : Value) (a : Option Addr) (c : Nat) (L : List Tb.Rt) (D : List Tb.Ch) (w : World) (hl : D.length ≤ 1000) (hw : Tb.Wf L) (h40 : L.length ≤ 40) (hT : TAt w t v L) (hD : Cs w a D) (hs : D ≠ [] → Sep w t v a) :
    Calls Try.prog 27 #[.pointer (some ⟨t, 0, none⟩), .slice a D.length c] w (DoPost t v (Tb.done D L) w) := by
  have hat : ∀ W, (∃ f : Fr NoB w W, W.cell? ⟨w.heap.size, 0, none⟩ = some (.bool true) ∧ W.cell? ⟨w.heap.size, 1, none⟩ = some (.bool false)) → DoAt w t v a D w.heap.size W v L := fun W ⟨hf, h0, h1⟩ =>
    ⟨hT.keep0 hf, hf.mono (fun _ _ k => k.elim), fun g hg => .inl hg, fun n => (hs n).keep0 hf, hD.keep0 hf, ⟨fun e => by
      rcases e with e | e
      · have := World.rowIs.lt hT.row; omega
      · have := (World.ownsRow.lt hT.sl _ e).2; omega, World.block_lt_of_cell? W _ h0⟩, h0, h1, hw, h40⟩
  obtain ⟨Z, hZ⟩ : ∃ Z, Z = Tb.done D L := ⟨_, rfl⟩
  have HZ : Hid (Tb.rest D 0 L = Z) := by
    rw [hZ]; rfl
  rw [← hZ]
  have HAT := Lib.hid hat; clear hat
  clear hw h40 hT hD hs hZ
  go_enter Try.func27, Try.ntmps27
  go_wp2
  go_loopw [12] (fun i wr => DoRel w t v a D w.heap.size Z i wr) (fun i _ => 2 - (intOf i).toNat)
  case atStart => exact ⟨0, by omega, rfl, Lib.hid ⟨v, L, HAT.out _ ⟨by (repeat (first | exact Fr.refl _ _ | refine Fr.alloc ?_ _ | refine Fr.setNew ?_ (by omega) _ _ | refine Fr.drewN ?_ _ | refine Fr.drew ?_)), by simp, by simp⟩, HZ.out⟩⟩
  case round =>
    obtain ⟨k, hk, rfl, hd0⟩ := hrel
    obtain ⟨v1, M1, hd, hz⟩ := hd0.out
    clear hd0
    clear HAT HZ
    by_cases hk2 : k < 2
    · have hki : (k : Int) < 2 := by omega
      have hc : wr.cell? ⟨w.heap.size, k, none⟩ = some (.bool (decide (k = 0))) := by
        rcases (by omega : k = 0 ∨ k = 1) with rfl | rfl
        · exact hd.b0
        · exact hd.b1
      obtain ⟨aw, haw⟩ : ∃ aw, aw = decide (k = 0) := ⟨_, rfl⟩
      rw [Tb.rest_fin hk2, ← haw] at hz
      rw [← haw] at hc
      have HK2 := Lib.hid hk2
      have HD1 := Lib.hid (show ∃ v' M, DoAt w t v a D w.heap.size wr v' M ∧ Tb.fin D k (Tb.pass aw (D.drop 0) M) = Z from ⟨v1, M1, hd, by rw [List.drop_zero]; exact hz⟩)
      clear hd hz haw hk hk2 v1 M1
      go_wp2
      go_loopw [18] (fun i wx => DoRel2 w t v a D w.heap.size Z k aw i wx) (fun i _ => D.length - (intOf i).toNat)
      case atStart => exact ⟨0, by omega, rfl, HD1⟩
      case round =>
        clear hc HD1
        obtain ⟨j, hj, rfl, hd0⟩ := hrel
        obtain ⟨v2, M, hd, hz⟩ := hd0.out
        clear hd0
        obtain ⟨wy, rfl⟩ : ∃ W : World, W = wr := ⟨_, rfl⟩
        by_cases hjD : j < D.length
        · obtain ⟨b0, o0, rfl, c0, c1, c2, c3⟩ := hd.ra j hjD
          have hji : (j : Int) < (D.length : Int) := by omega
          have hs1 := fun h => Tb.pass_skip (aw := aw) hjD h M
          have hs2 := fun h he => Tb.pass_err (aw := aw) hjD h (M := M) he
          have hs3 := fun h he => Tb.pass_next (aw := aw) hjD h (M := M) he
          obtain ⟨ch, hch⟩ : ∃ ch, Tb.nthC D j = ch := ⟨_, rfl⟩
          rw [hch] at c0 c1 c2 c3 hs1 hs2 hs3
          obtain ⟨⟨l, b⟩, o, n⟩ := ch
          dsimp only at c0 c1 c2 c3 hs1 hs2 hs3
          have HJ := Lib.hid hjD
          have HD := Lib.hid hd
          have HZ := Lib.hid hz
          clear hch hd hz hj
          go_upto_region 7 with fail
          refine wp_name fun w3 hw => ?_
          have d0 : w3.cell? ⟨wy.heap.size, 0, none⟩ = some (.int .i64 l) := by rw [hw]; simp
          have d1 : w3.cell? ⟨wy.heap.size, 1, none⟩ = some (.int .i64 b) := by rw [hw]; simp
          have d2 : w3.cell? ⟨wy.heap.size, 2, none⟩ = some (.int .i64 o) := by rw [hw]; simp
          have d3 : w3.cell? ⟨wy.heap.size, 3, none⟩ = some (.int .i64 n) := by rw [hw]; simp
          have hF : Fr NoB wy w3 := by rw [hw]; (repeat (first | exact Fr.refl _ _ | refine Fr.alloc ?_ _ | refine Fr.setNew ?_ (by omega) _ _ | refine Fr.drewN ?_ _ | refine Fr.drew ?_))
          have HD3 := Lib.hid (HD.out.keep0 hF)
          have HNR : Hid (wy.heap.size < w3.heap.size) := World.block_lt_of_cell? w3 _ d0
          clear hw hF c0 c1 c2 c3
          by_cases hsk : (decide (n = -2) != aw) = true
          · have HB : Hid ((!((n == -2) == aw)) = true) := hsk
            have HS1 := Lib.hid (hs1 hsk)
            clear hsk hs1 hs2 hs3
            go_upto_if 26 with fail
            rw [HB.out]
            clear HB
            go_wp2
            go_roundw
            case rel => exact ⟨j + 1, by have := HJ.out; omega, by go_num, Lib.hid ⟨v2, M, HD3.out, by rw [← HS1.out]; exact HZ.out⟩⟩
            case measure => (simp [intOf]; try omega)
          · have hsk : (decide (n = -2) != aw) = false := by simpa using hsk
            have HB : Hid ((!((n == -2) == aw)) = false) := hsk
            have hs2 := hs2 hsk
            have hs3 := hs3 hsk
            have HNB : Hid (¬ TB t v2 wy.heap.size) := fun e => by
              rcases e with e | e
              · have := World.rowIs.lt HD.out.at_.row; omega
              · have := (World.ownsRow.lt HD.out.at_.sl _ e).2; omega
            have HS2 := Lib.hid hs2; clear hs2; have HS3 := Lib.hid hs3; clear hs3
            clear hs1 hsk HD
            go_upto_if 26 with fail
            rw [HB.out]
            clear HB
            go_wp2_with fail
            obtain ⟨ga, gc, rfl, hgr, _, hgc⟩ := HD3.out.at_.shape
            have HGR := Lib.hid hgr
            have HGC := Lib.hid hgc
            have HGL : Hid (M.length ≤ 1000) := by have := HD3.out.len; show M.length ≤ 1000; omega
            clear hgr hgc
            (refine wp_region_held_drew (S := (fun W => W.cell? ⟨wy.heap.size, 0, none⟩ = some (.int .i64 l) ∧ W.cell? ⟨wy.heap.size, 1, none⟩ = some (.int .i64 b) ∧ W.cell? ⟨wy.heap.size, 2, none⟩ = some (.int .i64 o) ∧ W.cell? ⟨wy.heap.size, 3, none⟩ = some (.int .i64 n))) (by kernel_rfl) ⟨d0, d1, d2, d3⟩ (fun hHeld => ?_))
            (refine wpAnyH_take (i := 0) (v := ?_) (by simp only [List.getElem?_toArray, List.getElem?_cons_zero]; rfl) (by kernel_rfl) (by kernel_rfl) (by kernel_rfl) (by exact fun _ _ _ h => h) (Or.inl ⟨by rfl, ?_⟩) hHeld ?_; rotate_left; (focus (intro w hSw; (try dsimp only at hSw); go_simp; all_goals with_reducible rfl)); (try simp only [Act.put, List.setIfInBounds_toArray, List.set_cons_zero, List.set_cons_succ])); (refine wpAnyH_take (i := 1) (v := ?_) (by simp only [List.getElem?_toArray, List.getElem?_cons_succ, List.getElem?_cons_zero]; rfl) (by kernel_rfl) (by kernel_rfl) (by kernel_rfl) (by exact fun _ _ _ h => h) (Or.inl ⟨by rfl, ?_⟩) hHeld ?_; rotate_left; (focus (intro w hSw; (try dsimp only at hSw); go_simp; all_goals with_reducible rfl)); (try simp only [Act.put, List.setIfInBounds_toArray, List.set_cons_zero, List.set_cons_succ])); (refine wpAnyH_take (i := 4) (v := ?_) (by simp only [List.getElem?_toArray, List.getElem?_cons_succ, List.getElem?_cons_zero]; rfl) (by kernel_rfl) (by kernel_rfl) (by kernel_rfl) (by exact fun _ _ _ h => h) (Or.inl ⟨by rfl, ?_⟩) hHeld ?_; rotate_left; (focus (intro w hSw; (try dsimp only at hSw); go_simp; all_goals with_reducible rfl)); (try simp only [Act.put, List.setIfInBounds_toArray, List.set_cons_zero, List.set_cons_succ])); (refine wpAnyH_take (i := 2) (v := ?_) (by simp only [List.getElem?_toArray, List.getElem?_cons_succ, List.getElem?_cons_zero]; rfl) (by kernel_rfl) (by kernel_rfl) (by kernel_rfl) (by exact fun _ _ _ h => h) (Or.inl ⟨by rfl, ?_⟩) hHeld ?_; rotate_left; (focus (intro w hSw; (try dsimp only at hSw); go_simp; all_goals with_reducible rfl)); (try simp only [Act.put, List.setIfInBounds_toArray, List.set_cons_zero, List.set_cons_succ])); (refine wpAnyH_take (i := 5) (v := ?_) (by simp only [List.getElem?_toArray, List.getElem?_cons_succ, List.getElem?_cons_zero]; rfl) (by kernel_rfl) (by kernel_rfl) (by kernel_rfl) (by exact fun _ _ _ h => h) (Or.inl ⟨by rfl, ?_⟩) hHeld ?_; rotate_left; (focus (intro w hSw; (try dsimp only at hSw); go_simp; all_goals with_reducible rfl)); (try simp only [Act.put, List.setIfInBounds_toArray, List.set_cons_zero, List.set_cons_succ]))
            (refine wpAnyH_ready (rs := [3]) (by kernel_rfl) (by simp) ?_; refine AllReadyH.cons (by simp only [List.getElem?_toArray, List.getElem?_cons_succ, List.getElem?_cons_zero]; rfl) (fun K hK => ?_) AllReadyH.nil; go_simp); (refine (Get_any t ga gc M l b _ HGL.out HD3.out.wf (HGR.out.keep0 (Fr.drew (Fr.refl NoB w3))) (cell_fr' (Fr.drew (Fr.refl NoB w3)) HGC.out (fun h => h))).mono ?_; rintro e w4 ⟨rfl, hf⟩; have s0 := cell_fr' hf d0 (fun h => h); have s1 := cell_fr' hf d1 (fun h => h); have s2 := cell_fr' hf d2 (fun h => h); have s3 := cell_fr' hf d3 (fun h => h); have HF4 := Lib.hid ((Fr.drew (Fr.refl NoB w3)).trans hf); clear hf d0 d1 d2 d3); (try go_wp2_with fail); (refine hK.out _ _ ⟨s0, s1, s2, s3⟩ (fun hHeld => ?_)); clear hK K; (try simp only [Act.put, List.setIfInBounds_toArray, List.set_cons_zero, List.set_cons_succ])
            (refine wpAnyH_take (i := 6) (v := ?_) (by simp only [List.getElem?_toArray, List.getElem?_cons_succ, List.getElem?_cons_zero]; rfl) (by kernel_rfl) (by kernel_rfl) (by kernel_rfl) (by exact fun _ _ _ h => h) (Or.inl ⟨by rfl, ?_⟩) hHeld ?_; rotate_left; (focus (intro w hSw; (try dsimp only at hSw); go_simp; all_goals with_reducible rfl)); (try simp only [Act.put, List.setIfInBounds_toArray, List.set_cons_zero, List.set_cons_succ]))
            (refine wpAnyH_done (by kernel_rfl) ?_ _)
            have HD4 := Lib.hid (HD3.out.keep0 HF4.out)
            clear HD3 HGR HGC
            by_cases hg : Tb.get M ⟨l, b⟩ = o
            · have hb2 : (Tb.get M ⟨l, b⟩ != o) = false := by simp [hg]
              have hst := Tb.step_set (M := M) (c := ⟨⟨l, b⟩, o, n⟩) hg
              rw [hst] at HS2 HS3
              dsimp only at HS2 HS3
              have HOK := Lib.hid (Tb.setL_ok HD4.out.wf HD4.out.len ⟨l, b⟩ n)
              generalize Tb.get M ⟨l, b⟩ = gg at *
              clear hg hst
              go_wp2_with fail
              refine (Set_any t _ M l b n _ HD4.out.len HD4.out.wf HD4.out.at_).mono ?_
              rintro e w5 ⟨rfl, v5, hT, hf, ho⟩
              have HD5 := Lib.hid (HD4.out.set hT hf ho HOK.out.1 HOK.out.2)
              have s0 := cell_fr' hf s0 HNB.out
              clear hT hf ho HD4
              by_cases hc : Tb.setC M ⟨l, b⟩ n = 0
              · have hb3 : (Tb.setC M ⟨l, b⟩ n != 0) = false := by simp [hc]
                have HS := Lib.hid (HS3.out hc)
                generalize Tb.setC M ⟨l, b⟩ n = cc at *
                clear hc
                go_wp2
                go_roundw
                case rel => exact ⟨j + 1, by have := HJ.out; omega, by go_num, Lib.hid ⟨v5, _, HD5.out, by rw [← HS.out]; exact HZ.out⟩⟩
                case measure => (simp [intOf]; try omega)
              · have hb3 : (Tb.setC M ⟨l, b⟩ n != 0) = true := by simpa using hc
                have hz := HZ.out
                rw [HS2.out hc, Tb.fin_err hc] at hz
                have HP := Lib.hid (HD5.out.post hz.symm)
                clear hc hz
                generalize Tb.setC M ⟨l, b⟩ n = cc at *
                go_wp2
                go_ret
                exact HP.out
            · have hb2 : (Tb.get M ⟨l, b⟩ != o) = true := by simpa using hg
              have hst := Tb.step_no (M := M) (c := ⟨⟨l, b⟩, o, n⟩) hg
              rw [hst] at HS2
              have hz := HZ.out
              rw [HS2.out (show (11 : Int) ≠ 0 by decide), Tb.fin_err (show (11 : Int) ≠ 0 by decide)] at hz
              have HP := Lib.hid (HD4.out.post hz.symm)
              generalize Tb.get M ⟨l, b⟩ = gg at *
              clear hg hst hz
              go_wp2
              go_ret
              exact HP.out
        · have e : j = D.length := by omega
          subst e
          rw [List.drop_length] at hz
          have HR := Lib.hid (show ∃ v' M, DoAt w t v a D w.heap.size wy v' M ∧ Tb.rest D (k + 1) M = Z from ⟨v2, M, hd, by rw [← Tb.fin_end HK2.out]; exact hz⟩)
          have hji : ¬ (D.length : Int) < (D.length : Int) := by omega
          clear hz hd hjD hj
          go_wp2
          go_roundw
          case rel => exact ⟨k + 1, by have := HK2.out; omega, by go_num, HR⟩
          case measure => (have := HK2.out; simp [intOf]; try omega)
    · have e : k = 2 := by omega
      subst e
      have hp := hd.post (e := 0) (Z := Z) (by rw [← hz]; rfl)
      have HP := Lib.hid hp
      clear hd hz hp
      go_wp2
      go_ret
      exact HP.out
end Go.Proofs.Ytdkkeaegmmepfaa
