/- Walks: Set and SetOf, whatever is asked; handpostlaw.tables. -/
import Derived.Test.YtdkkeaegmmepfaaTb20
namespace Go.Proofs.Ytdkkeaegmmepfaa
open Go.RowKit Go.Deep

/-- The blocks of a table. -/
def TB (t : Nat) (v : Value) (k : Nat) : Prop := k = t ∨ v.ownBlock = some k
def SetTbPost (t : Nat) (v : Value) (L : List Tb.Rt) (p : Tb.Pf) (hop : Int) (w : World) (e : Ending) (w' : World) : Prop :=
  e = .returned (.int .i64 (Tb.setC L p hop)) ∧ ∃ v', TAt w' t v' (Tb.setL L p hop) ∧ Fr (TB t v) w w' ∧ ∀ g, v'.ownBlock = some g → v.ownBlock = some g ∨ w.heap.size ≤ g
theorem Set_any (t : Nat) (v : Value) (L : List Tb.Rt) (l b hop : Int) (w : World) (hl : L.length ≤ 40) (hw : Tb.Wf L) (h : TAt w t v L) :
    Calls Try.prog 13 #[.pointer (some ⟨t, 0, none⟩), .agg #[.int .i64 l, .int .i64 b], .int .i64 hop] w (SetTbPost t v L ⟨l, b⟩ hop w) := by
  by_cases hc : Tb.setC L ⟨l, b⟩ hop = 0
  · obtain ⟨hok, h2, h3, h4⟩ := Tb.setC_0 hc
    have hL : Tb.setL L ⟨l, b⟩ hop = Tb.setOk L ⟨l, b⟩ hop := by unfold Tb.setL; rw [if_pos hc]
    have key : Calls Try.prog 13 #[.pointer (some ⟨t, 0, none⟩), .agg #[.int .i64 l, .int .i64 b], .int .i64 hop] w (SetOk t v (Tb.setOk L ⟨l, b⟩ hop) w) := by
      by_cases hg : Tb.get L ⟨l, b⟩ = -2
      · have h5 : hop ≠ -2 := fun e => h3 ⟨hg, e⟩
        exact Set_new t v L l b hop w hl hw h hok hg h5 (h2.resolve_left h5) (by have : ¬ 40 ≤ L.length := fun k => h4 ⟨hg, k⟩; omega)
      · by_cases h5 : hop = -2
        · exact Set_del t v L l b hop w hl hw h hg h5
        · exact Set_put t v L l b hop w hl hw h hg h5 (h2.resolve_left h5)
    refine key.mono ?_
    rintro e w' ⟨rfl, v', h1, h2, h3⟩
    exact ⟨by rw [hc], v', by rw [hL]; exact h1, h2, h3⟩
  · have hL : Tb.setL L ⟨l, b⟩ hop = L := by unfold Tb.setL; rw [if_neg hc]
    refine (SetTb_no t v L l b hop w hl hw h hc).mono ?_
    rintro e w' ⟨rfl, hf⟩
    exact ⟨rfl, v, by rw [hL]; exact h.keep0 hf, hf.mono (fun _ _ h => h.elim), fun g hg => .inl hg⟩

def SoPost (a : Option Addr) (L : List Tb.Rt) (p : Tb.Pf) (hop : Int) (w : World) (e : Ending) (w' : World) : Prop :=
  ∃ a' c', e = .returned (.tuple #[.slice a' (Tb.setL L p hop).length c', .int .i64 (Tb.setC L p hop)]) ∧ Rs w' a' (Tb.setL L p hop) ∧
    (∀ q, a' = some q → q.spot = none ∧ (a = some q ∨ (w.heap.size ≤ q.block ∧ q.block < w'.heap.size))) ∧ Fr NoB w w'
theorem SetOf_any (a : Option Addr) (c : Nat) (L : List Tb.Rt) (l b hop : Int) (w : World) (hl : L.length ≤ 1000) (hw : Tb.Wf L) (ha : Rs w a L) (hs : ∀ q, a = some q → q.spot = none) :
    Calls Try.prog 32 #[.slice a L.length c, .agg #[.int .i64 l, .int .i64 b], .int .i64 hop] w (SoPost a L ⟨l, b⟩ hop w) := by
  by_cases hc : Tb.setC L ⟨l, b⟩ hop = 0
  · obtain ⟨hok, h2, h3, h4⟩ := Tb.setC_0 hc
    have hL : Tb.setL L ⟨l, b⟩ hop = Tb.soEnd (Tb.soF L ⟨l, b⟩ hop) ⟨l, b⟩ hop := by unfold Tb.setL; rw [if_pos hc, Tb.so_end hw hok]
    have key : Calls Try.prog 32 #[.slice a L.length c, .agg #[.int .i64 l, .int .i64 b], .int .i64 hop] w (SoOk L ⟨l, b⟩ hop w) := by
      by_cases hg : Tb.get L ⟨l, b⟩ = -2
      · have h5 : hop ≠ -2 := fun e => h3 ⟨hg, e⟩
        exact SetOf_new a c L l b hop w hl ha hok h5 (h2.resolve_left h5) hg (by have : ¬ 40 ≤ L.length := fun k => h4 ⟨hg, k⟩; omega)
      · by_cases h5 : hop = -2
        · exact SetOf_del a c L l b hop w hl ha hok h5 hg
        · exact SetOf_put a c L l b hop w hl ha hok h5 (h2.resolve_left h5) hg
    refine key.mono ?_
    rintro e w' ⟨v, rfl, hv, hf⟩
    rw [← hL] at hv
    obtain ⟨a', c', rfl, hr, hb, _⟩ := hv.shape
    obtain ⟨_, _, e2, _, _, _, _, _, hz⟩ := ownsRow_rd hv
    cases e2
    refine ⟨a', c', by rw [hc], hr, fun q hq => ⟨by rw [hz q hq], .inr ⟨(hb q hq).1, (World.ownsRow.lt hv _ (hb q hq).2).2⟩⟩, hf⟩
  · have hL : Tb.setL L ⟨l, b⟩ hop = L := by unfold Tb.setL; rw [if_neg hc]
    refine (SetOf_no a c L l b hop w hl ha hc).mono ?_
    rintro e w' ⟨rfl, hf⟩
    refine ⟨a, c, by rw [hL], by rw [hL]; exact ha.keep0 hf, fun q hq => ⟨hs q hq, .inl hq⟩, hf⟩

/-- Both tables, with the same routes. -/
structure Two (w wr : World) (t : Nat) (v : Value) (a : Option Addr) (L : List Tb.Rt) : Prop where
  at_ : TAt wr t v L
  rs : Rs wr a L
  new : w.heap.size ≤ t
  own : ∀ g, v.ownBlock = some g → w.heap.size ≤ g
  sep : ∀ q, a = some q → q.spot = none ∧ q.block ≠ t ∧ v.ownBlock ≠ some q.block ∧ q.block < wr.heap.size
  f : Fr NoB w wr
def TabRel (S : List Tb.Rt) (w : World) (t : Nat) (r ok i : Value) (wr : World) : Prop :=
  ∃ k : Nat, k ≤ S.length ∧ i = .int .i64 k ∧ ok = .bool true ∧ ∃ v a c, r = .slice a (Tb.play (S.take k)).length c ∧ Two w wr t v a (Tb.play (S.take k))
def TabPost (S : List Tb.Rt) (w : World) (e : Ending) (w' : World) : Prop :=
  ∃ t v a c, e = .returned (.tuple #[.pointer (some ⟨t, 0, none⟩), .slice a (Tb.play S).length c, .bool true]) ∧ Two w w' t v a (Tb.play S)
theorem Two.keep0 {w wr wx : World} {t : Nat} {v : Value} {a : Option Addr} {L : List Tb.Rt} (h : Two w wr t v a L) (hf : Fr NoB wr wx) : Two w wx t v a L :=
  ⟨h.at_.keep0 hf, h.rs.keep0 hf, h.new, h.own, fun q hq => by obtain ⟨h1, h2, h3, h4⟩ := h.sep q hq; exact ⟨h1, h2, h3, Nat.lt_of_lt_of_le h4 hf.size⟩, h.f.trans hf⟩
theorem Two.set {w wr wx : World} {t : Nat} {v v' : Value} {a : Option Addr} {L : List Tb.Rt} (h : Two w wr t v a L) (hf : Fr (TB t v) wr wx) (ho : ∀ g, v'.ownBlock = some g → v.ownBlock = some g ∨ wr.heap.size ≤ g) :
    Rs wx a L ∧ Fr NoB w wx ∧ (∀ g, v'.ownBlock = some g → w.heap.size ≤ g) ∧ (∀ q, a = some q → q.spot = none ∧ q.block ≠ t ∧ v'.ownBlock ≠ some q.block ∧ q.block < wx.heap.size) := by
  refine ⟨h.rs.keep hf (fun p hp e => ?_), ?_, fun g hg => ?_, fun q hq => ?_⟩
  · obtain ⟨_, h2, h3, _⟩ := h.sep p hp
    rcases e with e | e
    · exact h2 e
    · exact h3 e
  · refine h.f.trans' hf (fun i hi e => ?_)
    rcases e with e | e
    · have := h.new; omega
    · have := h.own i e; omega
  · rcases ho g hg with e | e
    · exact h.own g e
    · have := h.f.size; omega
  · obtain ⟨h1, h2, h3, h4⟩ := h.sep q hq
    refine ⟨h1, h2, fun e => ?_, Nat.lt_of_lt_of_le h4 hf.size⟩
    rcases ho _ e with k | k
    · exact h3 k
    · omega
set_option maxRecDepth 100000 in
set_option maxHeartbeats 8000000 in
theorem tables_any (sa : Option Addr) (sc : Nat) (S : List Tb.Rt) (w : World) (hl : S.length ≤ 1000) (hs : Rs w sa S) :
    Calls Try.prog 9 #[.slice sa S.length sc] w (TabPost S w) := by
  have HS := Lib.hid hs; clear hs
  go_enter Try.func9, Try.ntmps9
  go_wp2_with fail
  refine (NewT _).mono ?_
  rintro e w0 ⟨rfl, hT, hf⟩
  have hgl := World.rowIs.lt hT.row
  have h2 : Two w w0 w.heap.size (.slice none 0 0) none [] := ⟨hT, Rs.nil _ _, Nat.le_refl _, fun g h => (by cases h), fun q h => (by cases h), hf⟩
  have H2 := Lib.hid h2; clear h2
  clear hT hf hgl
  obtain ⟨t, ht⟩ : ∃ t, t = w.heap.size := ⟨_, rfl⟩
  rw [← ht] at H2
  rw [← ht]
  clear ht
  go_wp2
  go_loopw [6, 7, 8] (fun r ok i wr => TabRel S w t r ok i wr) (fun _ _ i _ => S.length - (intOf i).toNat)
  case atStart => exact ⟨0, by omega, rfl, rfl, _, none, 0, rfl, by rw [List.take_zero]; exact H2.out⟩
  case round =>
    obtain ⟨k, hk, rfl, rfl, v, a, c, rfl, h2⟩ := hrel
    clear H2
    have H2 := Lib.hid h2; clear h2
    obtain ⟨hwf, h40⟩ := Tb.play_ok (S.take k)
    by_cases hkk : k < S.length
    · obtain ⟨b0, o0, rfl, c0, c1, c2⟩ := (HS.out.keep0 H2.out.f) k hkk
      have hst : Tb.play (S.take (k + 1)) = Tb.setL (Tb.play (S.take k)) (Tb.nth S k).p (Tb.nth S k).hop := by rw [Tb.take_succ hkk, Tb.play_app]
      have hb0 : b0 < w.heap.size := by
        obtain ⟨b1, o1, e, x0, _⟩ := HS.out k hkk
        cases e
        exact World.block_lt_of_cell? w _ x0
      generalize hr : Tb.nth S k = r at *
      obtain ⟨⟨l, b⟩, hop⟩ := r
      generalize hL : Tb.play (S.take k) = L at *
      dsimp only at c0 c1 c2 hst
      have hki : (k : Int) < (S.length : Int) := by omega
      have hki0 : (0 : Int) ≤ (k : Int) := by omega
      have HST := Lib.hid hst; clear hst; have HB0 := Lib.hid hb0; clear hb0; have HWF := Lib.hid hwf; clear hwf; have H40 := Lib.hid h40; clear h40
      clear hr hL
      have HD := Lib.hid (H2.out.keep0 (Fr.drew (Fr.refl NoB wr)))
      have hnb : ¬ TB t v b0 := (fun e => by have h1 := H2.out.new; have h3 := HB0.out; rcases e with e | e; omega; have := H2.out.own b0 e; omega)
      have HNB := Lib.hid hnb; clear hnb
      go_wp2_with fail
      (refine wp_region_held_drew (S := (fun W => W.cell? ⟨b0, o0 + k * 3, none⟩ = some (.int .i64 l) ∧ W.cell? ⟨b0, o0 + k * 3 + 1, none⟩ = some (.int .i64 b) ∧ W.cell? ⟨b0, o0 + k * 3 + 2, none⟩ = some (.int .i64 hop))) (by kernel_rfl) ⟨c0, c1, c2⟩ (fun hHeld => ?_))
      (refine wpAnyH_take (i := 0) (v := ?_) (by simp only [List.getElem?_toArray, List.getElem?_cons_zero]; rfl) (by kernel_rfl) (by kernel_rfl) (by kernel_rfl) (by exact fun _ _ _ h => h) (Or.inl ⟨by rfl, ?_⟩) hHeld ?_; rotate_left; (focus (intro w hSw; (try dsimp only at hSw); go_simp; all_goals with_reducible rfl)); (try simp only [Act.put, List.setIfInBounds_toArray, List.set_cons_zero, List.set_cons_succ])); (refine wpAnyH_take (i := 1) (v := ?_) (by simp only [List.getElem?_toArray, List.getElem?_cons_succ, List.getElem?_cons_zero]; rfl) (by kernel_rfl) (by kernel_rfl) (by kernel_rfl) (by exact fun _ _ _ h => h) (Or.inl ⟨by rfl, ?_⟩) hHeld ?_; rotate_left; (focus (intro w hSw; (try dsimp only at hSw); go_simp; all_goals with_reducible rfl)); (try simp only [Act.put, List.setIfInBounds_toArray, List.set_cons_zero, List.set_cons_succ])); (refine wpAnyH_take (i := 2) (v := ?_) (by simp only [List.getElem?_toArray, List.getElem?_cons_succ, List.getElem?_cons_zero]; rfl) (by kernel_rfl) (by kernel_rfl) (by kernel_rfl) (by exact fun _ _ _ h => h) (Or.inl ⟨by rfl, ?_⟩) hHeld ?_; rotate_left; (focus (intro w hSw; (try dsimp only at hSw); go_simp; all_goals with_reducible rfl)); (try simp only [Act.put, List.setIfInBounds_toArray, List.set_cons_zero, List.set_cons_succ])); (refine wpAnyH_take (i := 3) (v := ?_) (by simp only [List.getElem?_toArray, List.getElem?_cons_succ, List.getElem?_cons_zero]; rfl) (by kernel_rfl) (by kernel_rfl) (by kernel_rfl) (by exact fun _ _ _ h => h) (Or.inl ⟨by rfl, ?_⟩) hHeld ?_; rotate_left; (focus (intro w hSw; (try dsimp only at hSw); go_simp; all_goals with_reducible rfl)); (try simp only [Act.put, List.setIfInBounds_toArray, List.set_cons_zero, List.set_cons_succ])); (refine wpAnyH_take (i := 4) (v := ?_) (by simp only [List.getElem?_toArray, List.getElem?_cons_succ, List.getElem?_cons_zero]; rfl) (by kernel_rfl) (by kernel_rfl) (by kernel_rfl) (by exact fun _ _ _ h => h) (Or.inl ⟨by rfl, ?_⟩) hHeld ?_; rotate_left; (focus (intro w hSw; (try dsimp only at hSw); go_simp; all_goals with_reducible rfl)); (try simp only [Act.put, List.setIfInBounds_toArray, List.set_cons_zero, List.set_cons_succ])); (refine wpAnyH_take (i := 5) (v := ?_) (by simp only [List.getElem?_toArray, List.getElem?_cons_succ, List.getElem?_cons_zero]; rfl) (by kernel_rfl) (by kernel_rfl) (by kernel_rfl) (by exact fun _ _ _ h => h) (Or.inl ⟨by rfl, ?_⟩) hHeld ?_; rotate_left; (focus (intro w hSw; (try dsimp only at hSw); go_simp; all_goals with_reducible rfl)); (try simp only [Act.put, List.setIfInBounds_toArray, List.set_cons_zero, List.set_cons_succ])); (refine wpAnyH_take (i := 6) (v := ?_) (by simp only [List.getElem?_toArray, List.getElem?_cons_succ, List.getElem?_cons_zero]; rfl) (by kernel_rfl) (by kernel_rfl) (by kernel_rfl) (by exact fun _ _ _ h => h) (Or.inl ⟨by rfl, ?_⟩) hHeld ?_; rotate_left; (focus (intro w hSw; (try dsimp only at hSw); go_simp; all_goals with_reducible rfl)); (try simp only [Act.put, List.setIfInBounds_toArray, List.set_cons_zero, List.set_cons_succ])); (refine wpAnyH_take (i := 7) (v := ?_) (by simp only [List.getElem?_toArray, List.getElem?_cons_succ, List.getElem?_cons_zero]; rfl) (by kernel_rfl) (by kernel_rfl) (by kernel_rfl) (by exact fun _ _ _ h => h) (Or.inl ⟨by rfl, ?_⟩) hHeld ?_; rotate_left; (focus (intro w hSw; (try dsimp only at hSw); go_simp; all_goals with_reducible rfl)); (try simp only [Act.put, List.setIfInBounds_toArray, List.set_cons_zero, List.set_cons_succ])); (refine wpAnyH_take (i := 8) (v := ?_) (by simp only [List.getElem?_toArray, List.getElem?_cons_succ, List.getElem?_cons_zero]; rfl) (by kernel_rfl) (by kernel_rfl) (by kernel_rfl) (by exact fun _ _ _ h => h) (Or.inl ⟨by rfl, ?_⟩) hHeld ?_; rotate_left; (focus (intro w hSw; (try dsimp only at hSw); go_simp; all_goals with_reducible rfl)); (try simp only [Act.put, List.setIfInBounds_toArray, List.set_cons_zero, List.set_cons_succ])); (refine wpAnyH_take (i := 9) (v := ?_) (by simp only [List.getElem?_toArray, List.getElem?_cons_succ, List.getElem?_cons_zero]; rfl) (by kernel_rfl) (by kernel_rfl) (by kernel_rfl) (by exact fun _ _ _ h => h) (Or.inl ⟨by rfl, ?_⟩) hHeld ?_; rotate_left; (focus (intro w hSw; (try dsimp only at hSw); go_simp; all_goals with_reducible rfl)); (try simp only [Act.put, List.setIfInBounds_toArray, List.set_cons_zero, List.set_cons_succ])); (refine wpAnyH_take (i := 10) (v := ?_) (by simp only [List.getElem?_toArray, List.getElem?_cons_succ, List.getElem?_cons_zero]; rfl) (by kernel_rfl) (by kernel_rfl) (by kernel_rfl) (by exact fun _ _ _ h => h) (Or.inl ⟨by rfl, ?_⟩) hHeld ?_; rotate_left; (focus (intro w hSw; (try dsimp only at hSw); go_simp; all_goals with_reducible rfl)); (try simp only [Act.put, List.setIfInBounds_toArray, List.set_cons_zero, List.set_cons_succ]))
      (refine wpAnyH_ready (rs := [11]) (by kernel_rfl) (by simp) ?_; refine AllReadyH.cons (by simp only [List.getElem?_toArray, List.getElem?_cons_succ, List.getElem?_cons_zero]; rfl) (fun K hK => ?_) AllReadyH.nil; go_simp); (refine (Set_any t v L l b hop _ H40.out HWF.out HD.out.at_).mono ?_; rintro e w2 ⟨rfl, v', hT, hf, ho⟩; have s0 := cell_fr' hf c0 HNB.out; have s1 := cell_fr' hf c1 HNB.out; have s2 := cell_fr' hf c2 HNB.out; have HX := Lib.hid (HD.out.set hf ho); have HT := Lib.hid hT; clear hT hf ho c0 c1 c2); (try go_wp2_with fail); (refine hK.out _ _ ⟨s0, s1, s2⟩ (fun hHeld => ?_)); clear hK K; (try simp only [Act.put, List.setIfInBounds_toArray, List.set_cons_zero, List.set_cons_succ])
      (refine wpAnyH_take (i := 12) (v := ?_) (by simp only [List.getElem?_toArray, List.getElem?_cons_succ, List.getElem?_cons_zero]; rfl) (by kernel_rfl) (by kernel_rfl) (by kernel_rfl) (by exact fun _ _ _ h => h) (Or.inl ⟨by rfl, ?_⟩) hHeld ?_; rotate_left; (focus (intro w hSw; (try dsimp only at hSw); go_simp; all_goals with_reducible rfl)); (try simp only [Act.put, List.setIfInBounds_toArray, List.set_cons_zero, List.set_cons_succ]))
      (refine wpAnyH_done (by kernel_rfl) ?_ _)
      have HD2 := Lib.hid (Fr.drew (Fr.refl NoB w2))
      have HR2 := Lib.hid (HX.out.1.keep0 HD2.out)
      have HS2 : Hid (∀ q, a = some q → q.spot = none) := fun q hq => (HX.out.2.2.2 q hq).1
      have HL2 : Hid (L.length ≤ 1000) := by have := H40.out; show L.length ≤ 1000; omega
      generalize hcode : Tb.setC L ⟨l, b⟩ hop = code at *
      have HC := Lib.hid hcode; clear hcode
      go_wp2_with fail
      (refine wp_region_held_drew (S := (fun W => W.cell? ⟨b0, o0 + k * 3, none⟩ = some (.int .i64 l) ∧ W.cell? ⟨b0, o0 + k * 3 + 1, none⟩ = some (.int .i64 b) ∧ W.cell? ⟨b0, o0 + k * 3 + 2, none⟩ = some (.int .i64 hop))) (by kernel_rfl) ⟨s0, s1, s2⟩ (fun hHeld => ?_))
      (refine wpAnyH_take (i := 0) (v := ?_) (by simp only [List.getElem?_toArray, List.getElem?_cons_zero]; rfl) (by kernel_rfl) (by kernel_rfl) (by kernel_rfl) (by exact fun _ _ _ h => h) (Or.inl ⟨by rfl, ?_⟩) hHeld ?_; rotate_left; (focus (intro w hSw; (try dsimp only at hSw); go_simp; all_goals with_reducible rfl)); (try simp only [Act.put, List.setIfInBounds_toArray, List.set_cons_zero, List.set_cons_succ])); (refine wpAnyH_take (i := 1) (v := ?_) (by simp only [List.getElem?_toArray, List.getElem?_cons_succ, List.getElem?_cons_zero]; rfl) (by kernel_rfl) (by kernel_rfl) (by kernel_rfl) (by exact fun _ _ _ h => h) (Or.inl ⟨by rfl, ?_⟩) hHeld ?_; rotate_left; (focus (intro w hSw; (try dsimp only at hSw); go_simp; all_goals with_reducible rfl)); (try simp only [Act.put, List.setIfInBounds_toArray, List.set_cons_zero, List.set_cons_succ])); (refine wpAnyH_take (i := 2) (v := ?_) (by simp only [List.getElem?_toArray, List.getElem?_cons_succ, List.getElem?_cons_zero]; rfl) (by kernel_rfl) (by kernel_rfl) (by kernel_rfl) (by exact fun _ _ _ h => h) (Or.inl ⟨by rfl, ?_⟩) hHeld ?_; rotate_left; (focus (intro w hSw; (try dsimp only at hSw); go_simp; all_goals with_reducible rfl)); (try simp only [Act.put, List.setIfInBounds_toArray, List.set_cons_zero, List.set_cons_succ])); (refine wpAnyH_take (i := 3) (v := ?_) (by simp only [List.getElem?_toArray, List.getElem?_cons_succ, List.getElem?_cons_zero]; rfl) (by kernel_rfl) (by kernel_rfl) (by kernel_rfl) (by exact fun _ _ _ h => h) (Or.inl ⟨by rfl, ?_⟩) hHeld ?_; rotate_left; (focus (intro w hSw; (try dsimp only at hSw); go_simp; all_goals with_reducible rfl)); (try simp only [Act.put, List.setIfInBounds_toArray, List.set_cons_zero, List.set_cons_succ])); (refine wpAnyH_take (i := 4) (v := ?_) (by simp only [List.getElem?_toArray, List.getElem?_cons_succ, List.getElem?_cons_zero]; rfl) (by kernel_rfl) (by kernel_rfl) (by kernel_rfl) (by exact fun _ _ _ h => h) (Or.inl ⟨by rfl, ?_⟩) hHeld ?_; rotate_left; (focus (intro w hSw; (try dsimp only at hSw); go_simp; all_goals with_reducible rfl)); (try simp only [Act.put, List.setIfInBounds_toArray, List.set_cons_zero, List.set_cons_succ])); (refine wpAnyH_take (i := 5) (v := ?_) (by simp only [List.getElem?_toArray, List.getElem?_cons_succ, List.getElem?_cons_zero]; rfl) (by kernel_rfl) (by kernel_rfl) (by kernel_rfl) (by exact fun _ _ _ h => h) (Or.inl ⟨by rfl, ?_⟩) hHeld ?_; rotate_left; (focus (intro w hSw; (try dsimp only at hSw); go_simp; all_goals with_reducible rfl)); (try simp only [Act.put, List.setIfInBounds_toArray, List.set_cons_zero, List.set_cons_succ])); (refine wpAnyH_take (i := 6) (v := ?_) (by simp only [List.getElem?_toArray, List.getElem?_cons_succ, List.getElem?_cons_zero]; rfl) (by kernel_rfl) (by kernel_rfl) (by kernel_rfl) (by exact fun _ _ _ h => h) (Or.inl ⟨by rfl, ?_⟩) hHeld ?_; rotate_left; (focus (intro w hSw; (try dsimp only at hSw); go_simp; all_goals with_reducible rfl)); (try simp only [Act.put, List.setIfInBounds_toArray, List.set_cons_zero, List.set_cons_succ])); (refine wpAnyH_take (i := 7) (v := ?_) (by simp only [List.getElem?_toArray, List.getElem?_cons_succ, List.getElem?_cons_zero]; rfl) (by kernel_rfl) (by kernel_rfl) (by kernel_rfl) (by exact fun _ _ _ h => h) (Or.inl ⟨by rfl, ?_⟩) hHeld ?_; rotate_left; (focus (intro w hSw; (try dsimp only at hSw); go_simp; all_goals with_reducible rfl)); (try simp only [Act.put, List.setIfInBounds_toArray, List.set_cons_zero, List.set_cons_succ])); (refine wpAnyH_take (i := 8) (v := ?_) (by simp only [List.getElem?_toArray, List.getElem?_cons_succ, List.getElem?_cons_zero]; rfl) (by kernel_rfl) (by kernel_rfl) (by kernel_rfl) (by exact fun _ _ _ h => h) (Or.inl ⟨by rfl, ?_⟩) hHeld ?_; rotate_left; (focus (intro w hSw; (try dsimp only at hSw); go_simp; all_goals with_reducible rfl)); (try simp only [Act.put, List.setIfInBounds_toArray, List.set_cons_zero, List.set_cons_succ])); (refine wpAnyH_take (i := 9) (v := ?_) (by simp only [List.getElem?_toArray, List.getElem?_cons_succ, List.getElem?_cons_zero]; rfl) (by kernel_rfl) (by kernel_rfl) (by kernel_rfl) (by exact fun _ _ _ h => h) (Or.inl ⟨by rfl, ?_⟩) hHeld ?_; rotate_left; (focus (intro w hSw; (try dsimp only at hSw); go_simp; all_goals with_reducible rfl)); (try simp only [Act.put, List.setIfInBounds_toArray, List.set_cons_zero, List.set_cons_succ])); (refine wpAnyH_take (i := 10) (v := ?_) (by simp only [List.getElem?_toArray, List.getElem?_cons_succ, List.getElem?_cons_zero]; rfl) (by kernel_rfl) (by kernel_rfl) (by kernel_rfl) (by exact fun _ _ _ h => h) (Or.inl ⟨by rfl, ?_⟩) hHeld ?_; rotate_left; (focus (intro w hSw; (try dsimp only at hSw); go_simp; all_goals with_reducible rfl)); (try simp only [Act.put, List.setIfInBounds_toArray, List.set_cons_zero, List.set_cons_succ]))
      (refine wpAnyH_ready (rs := [11]) (by kernel_rfl) (by simp) ?_; refine AllReadyH.cons (by simp only [List.getElem?_toArray, List.getElem?_cons_succ, List.getElem?_cons_zero]; rfl) (fun K hK => ?_) AllReadyH.nil; go_simp); (refine (SetOf_any a c L l b hop _ HL2.out HWF.out HR2.out HS2.out).mono ?_; unfold SoPost; rw [HC.out]; rintro e w4 ⟨a', c', rfl, hr, hq, hf⟩; have x0 := cell_fr' hf s0 (fun h => h); have x1 := cell_fr' hf s1 (fun h => h); have x2 := cell_fr' hf s2 (fun h => h); have HR4 := Lib.hid hr; have HQ4 := Lib.hid hq; have HF4 := Lib.hid (HD2.out.trans hf); clear hr hq hf s0 s1 s2); (try go_wp2_with fail); (refine hK.out _ _ ⟨x0, x1, x2⟩ (fun hHeld => ?_)); clear hK K; (try simp only [Act.put, List.setIfInBounds_toArray, List.set_cons_zero, List.set_cons_succ])
      (refine wpAnyH_take (i := 12) (v := ?_) (by simp only [List.getElem?_toArray, List.getElem?_cons_succ, List.getElem?_cons_zero]; rfl) (by kernel_rfl) (by kernel_rfl) (by kernel_rfl) (by exact fun _ _ _ h => h) (Or.inl ⟨by rfl, ?_⟩) hHeld ?_; rotate_left; (focus (intro w hSw; (try dsimp only at hSw); go_simp; all_goals with_reducible rfl)); (try simp only [Act.put, List.setIfInBounds_toArray, List.set_cons_zero, List.set_cons_succ])); (refine wpAnyH_take (i := 13) (v := ?_) (by simp only [List.getElem?_toArray, List.getElem?_cons_succ, List.getElem?_cons_zero]; rfl) (by kernel_rfl) (by kernel_rfl) (by kernel_rfl) (by exact fun _ _ _ h => h) (Or.inl ⟨by rfl, ?_⟩) hHeld ?_; rotate_left; (focus (intro w hSw; (try dsimp only at hSw); go_simp; all_goals with_reducible rfl)); (try simp only [Act.put, List.setIfInBounds_toArray, List.set_cons_zero, List.set_cons_succ])); (refine wpAnyH_take (i := 14) (v := ?_) (by simp only [List.getElem?_toArray, List.getElem?_cons_succ, List.getElem?_cons_zero]; rfl) (by kernel_rfl) (by kernel_rfl) (by kernel_rfl) (by exact fun _ _ _ h => h) (Or.inl ⟨by rfl, ?_⟩) hHeld ?_; rotate_left; (focus (intro w hSw; (try dsimp only at hSw); go_simp; all_goals with_reducible rfl)); (try simp only [Act.put, List.setIfInBounds_toArray, List.set_cons_zero, List.set_cons_succ])); (refine wpAnyH_take (i := 15) (v := ?_) (by simp only [List.getElem?_toArray, List.getElem?_cons_succ, List.getElem?_cons_zero]; rfl) (by kernel_rfl) (by kernel_rfl) (by kernel_rfl) (by exact fun _ _ _ h => h) (Or.inl ⟨by rfl, ?_⟩) hHeld ?_; rotate_left; (focus (intro w hSw; (try dsimp only at hSw); go_simp; all_goals with_reducible rfl)); (try simp only [Act.put, List.setIfInBounds_toArray, List.set_cons_zero, List.set_cons_succ])); (refine wpAnyH_take (i := 16) (v := ?_) (by simp only [List.getElem?_toArray, List.getElem?_cons_succ, List.getElem?_cons_zero]; rfl) (by kernel_rfl) (by kernel_rfl) (by kernel_rfl) (by exact fun _ _ _ h => h) (Or.inl ⟨by rfl, ?_⟩) hHeld ?_; rotate_left; (focus (intro w hSw; (try dsimp only at hSw); go_simp; all_goals with_reducible rfl)); (try simp only [Act.put, List.setIfInBounds_toArray, List.set_cons_zero, List.set_cons_succ]))
      (refine wpAnyH_done (by kernel_rfl) ?_ _)
      have h4 : Two w w4 t v' a' (Tb.setL L ⟨l, b⟩ hop) := by
        have hgt := World.rowIs.lt HT.out.row
        refine ⟨HT.out.keep0 HF4.out, HR4.out, H2.out.new, HX.out.2.2.1, fun q hq => ?_, HX.out.2.1.trans HF4.out⟩
        obtain ⟨h1, h2⟩ := HQ4.out q hq
        refine ⟨h1, ?_⟩
        rcases h2 with h2 | ⟨h2, h3⟩
        · obtain ⟨_, k2, k3, k4⟩ := HX.out.2.2.2 q h2
          exact ⟨k2, k3, Nat.lt_of_lt_of_le k4 HF4.out.size⟩
        · have h2 : w2.heap.size ≤ q.block := h2
          exact ⟨by omega, fun e => by have := (World.ownsRow.lt HT.out.sl _ e).2; omega, h3⟩
      have H4 := Lib.hid h4
      clear h4
      go_wp2
      go_roundw
      case rel => exact ⟨k + 1, by omega, by go_num, rfl, v', a', c', by rw [HST.out], by rw [HST.out]; exact H4.out⟩
      case measure => simp [intOf]; omega
    · have e : S.take k = S := List.take_of_length_le (by omega)
      rw [e] at H2 ⊢
      clear e
      go_wp2
      refine bodyPost_ret (v := .tuple #[.pointer (some ⟨t, 0, none⟩), .slice a (Tb.play S).length c, .bool true]) ?_ rfl ⟨t, v, a, c, rfl, H2.out⟩
      simp [results, Try.results9, go_sem]
end Go.Proofs.Ytdkkeaegmmepfaa
