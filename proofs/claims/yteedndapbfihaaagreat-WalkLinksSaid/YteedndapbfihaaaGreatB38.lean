/- A walk in memory; walk.New. -/
import Derived.Test.YteedndapbfihaaaGreatB36
import Derived.Test.YteedndapbfihaaaGreatB37
namespace Go.Proofs.YteedndapbfihaaaGreat
open Go.RowKit Go.Deep

/-- A walk's seven cells. -/
def wkF (p : Nat) (T : Nat → Nat) (k : Nat) (i : Nat) : Value := if i = 0 then .pointer (some ⟨p, 0, none⟩) else if i - 1 < k then .pointer (some ⟨T (i - 1), 0, none⟩) else .pointer none
/-- Tables of all nodes, in memory. -/
structure WkAt (w : World) (b p : Nat) (T : Nat → Nat) (V : Nat → Value) (L : Nat → List Tb.Rt) : Prop where
  row : w.rowIs b 105 7 (wkF p T 6)
  tab : ∀ k, k < 6 → TAt w (T k) (V k) (L k)
/-- The blocks of a walk. -/
def FtK (b : Nat) (T : Nat → Nat) (V : Nat → Value) (i : Nat) : Prop := i = b ∨ ∃ k, k < 6 ∧ TB (T k) (V k) i
theorem WkAt.keep {S : Nat → Prop} {w w' : World} {b p : Nat} {T : Nat → Nat} {V : Nat → Value} {L : Nat → List Tb.Rt} (h : WkAt w b p T V L) (hf : Fr S w w') (hS : ∀ i, FtK b T V i → ¬ S i) : WkAt w' b p T V L :=
  ⟨hf.row h.row (hS _ (.inl rfl)), fun k hk => (h.tab k hk).keep hf (hS _ (.inr ⟨k, hk, .inl rfl⟩)) (fun g hg => hS g (.inr ⟨k, hk, .inr hg⟩))⟩
theorem WkAt.keep0 {w w' : World} {b p : Nat} {T : Nat → Nat} {V : Nat → Value} {L : Nat → List Tb.Rt} (h : WkAt w b p T V L) (hf : Fr NoB w w') : WkAt w' b p T V L := h.keep hf (fun _ _ h => h)
theorem WkAt.lt {w : World} {b p : Nat} {T : Nat → Nat} {V : Nat → Value} {L : Nat → List Tb.Rt} (h : WkAt w b p T V L) {i : Nat} (hi : FtK b T V i) : i < w.heap.size := by
  rcases hi with rfl | ⟨k, hk, e | e⟩
  · exact World.rowIs.lt h.row
  · subst e; exact World.rowIs.lt (h.tab k hk).row
  · exact (World.ownsRow.lt (h.tab k hk).sl i e).2
theorem WkAt.c0 {w : World} {b p : Nat} {T : Nat → Nat} {V : Nat → Value} {L : Nat → List Tb.Rt} (h : WkAt w b p T V L) : w.cell? ⟨b, 0, none⟩ = some (.pointer (some ⟨p, 0, none⟩)) := World.rowIs.cell h.row (i := 0) (by omega)
theorem WkAt.cT {w : World} {b p : Nat} {T : Nat → Nat} {V : Nat → Value} {L : Nat → List Tb.Rt} (h : WkAt w b p T V L) {k : Nat} (hk : k < 6) : w.cell? ⟨b, 1 + k, none⟩ = some (.pointer (some ⟨T k, 0, none⟩)) := by
  have := World.rowIs.cell h.row (i := 1 + k) (by omega)
  rw [wkF, if_neg (by omega), if_pos (by omega), show 1 + k - 1 = k from by omega] at this
  exact this
/-- A node's routes, small or full. -/
def tabOf (small : Bool) (s : Fb.PT) (k : Nat) : List Tb.Rt := if small then Fb.small s.t s.o k else Fb.full s.t s.o k
def NewWPost (small : Bool) (q : PIds) (s : Fb.PT) (w : World) (e : Ending) (w' : World) : Prop :=
  ∃ (b : Nat) (T : Nat → Nat) (V : Nat → Value), e = .returned (.pointer (some ⟨b, 0, none⟩)) ∧ WkAt w' b q.p T V (tabOf small s) ∧ Fr NoB w w' ∧ ∀ i, FtK b T V i → w.heap.size ≤ i
def NewWRel (small : Bool) (q : PIds) (s : Fb.PT) (w : World) (b : Nat) (i : Value) (wr : World) : Prop :=
  ∃ (k : Nat) (T : Nat → Nat) (V : Nat → Value), k ≤ 6 ∧ i = .int .i64 k ∧ wr.rowIs b 105 7 (wkF q.p T k) ∧
    (∀ j, j < k → TAt wr (T j) (V j) (tabOf small s j)) ∧ (∀ j i, j < k → TB (T j) (V j) i → w.heap.size ≤ i ∧ i ≠ b) ∧ w.heap.size ≤ b ∧ Fr NoB w wr
theorem NewWRel.next {small : Bool} {q : PIds} {s : Fb.PT} {w : World} {b k : Nat} {T : Nat → Nat} {V : Nat → Value} {wr w4 : World} {t' : Nat} {v' : Value} (hk : k < 6)
    (hrow : wr.rowIs b 105 7 (wkF q.p T k)) (hT : ∀ j, j < k → TAt wr (T j) (V j) (tabOf small s j)) (hN : ∀ j i, j < k → TB (T j) (V j) i → w.heap.size ≤ i ∧ i ≠ b) (hb : w.heap.size ≤ b) (hf : Fr NoB w wr)
    (hf4 : Fr NoB wr w4) (how : Ow wr w4 t' v' (tabOf small s k)) (i : Value) (hi : i = .int .i64 (k + 1 : Nat)) : NewWRel small q s w b i (w4.setCell ⟨b, 1 + k, none⟩ (.pointer (some ⟨t', 0, none⟩))) := by
  have hbl := World.rowIs.lt hrow
  have hfs : Fr (OneB b) w4 (w4.setCell ⟨b, 1 + k, none⟩ (.pointer (some ⟨t', 0, none⟩))) := (Fr.refl _ _).set1 _ _
  have hnew : ∀ i, TB t' v' i → wr.heap.size ≤ i := fun i hi => by
    rcases hi with e | e
    · have := how.new; omega
    · exact how.own i e
  refine ⟨k + 1, fun j => if j = k then t' else T j, fun j => if j = k then v' else V j, by omega, hi, ?_, ?_, ?_, hb, (hf.trans hf4).setNew hb _ _⟩
  · refine (World.rowIs.set (hf4.row hrow (fun h => h)) (1 + k) _).congr (fun i hi => ?_)
    unfold wkF
    dsimp only
    by_cases e : i = 1 + k
    · subst e
      rw [if_pos rfl, if_neg (by omega), if_pos (by omega), if_pos (by omega)]
    · rw [if_neg e]
      by_cases h0 : i = 0
      · rw [if_pos h0, if_pos h0]
      · rw [if_neg h0, if_neg h0]
        by_cases h1 : i - 1 < k
        · rw [if_pos h1, if_pos (by omega), if_neg (by omega)]
        · rw [if_neg h1, if_neg (by omega)]
  · intro j hj
    dsimp only
    by_cases e : j = k
    · subst e
      rw [if_pos rfl, if_pos rfl]
      exact how.at_.keep hfs (fun e => by have := hnew t' (.inl rfl); have e : t' = b := e; omega) (fun g hg e => by have := hnew g (.inr hg); have e : g = b := e; omega)
    · rw [if_neg e, if_neg e]
      exact ((hT j (by omega)).keep0 hf4).keep hfs (fun e => (hN j _ (by omega) (.inl rfl)).2 e) (fun g hg e => (hN j g (by omega) (.inr hg)).2 e)
  · intro j i hj hi
    dsimp only at hi
    by_cases e : j = k
    · rw [if_pos e, if_pos e] at hi
      have := hnew i hi
      have := hf.size
      exact ⟨by omega, by omega⟩
    · rw [if_neg e, if_neg e] at hi
      exact hN j i (by omega) hi
set_option maxRecDepth 100000 in
set_option maxHeartbeats 8000000 in
theorem NewW (small : Bool) (q : PIds) (v tv : Value) (s : Fb.PT) (m : Nat) (w : World) (hs : Fb.POk s m) (h : PAt w q v tv s) :
    Calls Tryz.prog 33 #[.pointer (some ⟨q.p, 0, none⟩), .bool small] w (NewWPost small q s w) := by
  have H := Lib.hid h; clear h; have HS := Lib.hid hs; clear hs
  go_enter Tryz.func33, Tryz.ntmps33
  go_wp2
  refine wp_name fun w2 hw2 => ?_
  have hf : Fr NoB w w2 := by rw [hw2]; exact (Fr.refl _ _).alloc _
  have hrow : w2.rowIs w.heap.size 105 7 (wkF q.p (fun _ => 0) 0) := by
    rw [hw2]
    exact World.rowIs_alloc w _ _ _ (fun i hi => by
      match i, hi with
      | 0, _ => rfl
      | 1, _ => rfl
      | 2, _ => rfl
      | 3, _ => rfl
      | 4, _ => rfl
      | 5, _ => rfl
      | 6, _ => rfl)
  clear hw2
  have hz : w.heap.size ≤ w.heap.size := Nat.le_refl _
  generalize hb' : w.heap.size = b at *
  have hz : w.heap.size ≤ b := by omega
  clear hb'
  have HF := Lib.hid hf; clear hf; have HRO := Lib.hid hrow; clear hrow; have HZ := Lib.hid hz; clear hz
  go_loopw [10] (fun i wr => NewWRel small q s w b i wr) (fun i _ => 6 - (intOf i).toNat)
  case atStart => exact ⟨0, fun _ => 0, fun _ => .int .i64 0, by omega, rfl, HRO.out, fun j h => by omega, fun j i h => by omega, HZ.out, HF.out⟩
  case round =>
    clear HF HRO HZ
    obtain ⟨k, T, V, hk, rfl, hrow, hT, hN, hb, hf⟩ := hrel
    have HRO := Lib.hid hrow; clear hrow; have HT := Lib.hid hT; clear hT; have HN := Lib.hid hN; clear hN; have HB := Lib.hid hb; clear hb; have HF := Lib.hid hf; clear hf
    by_cases hk6 : k < 6
    · have hki : (k : Int) < 6 := by omega
      have c1 := World.rowIs.cell HRO.out (i := 1 + k) (by omega)
      rw [wkF, if_neg (by omega), if_neg (by omega)] at c1
      have f1 := World.rowIs.frozen HRO.out (1 + k)
      cases small with
      | true =>
        go_wp2_with fail
        go_region_held3 (fun W => (W.cell? ⟨b, 1 + k, none⟩).isSome = true ∧ W.frozen? ⟨b, 1 + k, none⟩ = false)
          (first | exact ⟨congrArg Option.isSome c1, f1⟩ | exact ⟨congrArg Option.isSome t1, t2⟩ | exact ⟨congrArg Option.isSome (World.cell?_setCell_same' _ _ _ (congrArg Option.isSome t1)), World.rowIs.frozen (World.rowIs.set hro6 (1 + k) _) _⟩)
          (first | (go_at_call 19; refine (PSmall_any q v tv s k _ _ hk6 HS.out (H.out.keep0 HF.out.drew)).mono ?_; rintro e w6 ⟨t6, v6, rfl, how⟩; have hro6 := how.f.row (World.rowIs.drew HRO.out) (fun h => h); have t1 := cell_fr how.f c1 (fun h => h); have t2 := World.rowIs.frozen hro6 (1 + k)))
        have hnx := NewWRel.next (small := true) hk6 (World.rowIs.drew HRO.out) (fun j hj => (HT.out j hj).keep0 (Fr.refl _ _).drew) HN.out HB.out HF.out.drew how.f how
        clear hro6 t1 t2 c1 f1 how HRO HT HN HB HF
        have HNX := Lib.hid hnx; clear hnx
        go_wp2
        go_roundw
        case rel => exact HNX.out _ (by go_num)
        case measure => simp [intOf]; omega
      | false =>
        go_wp2_with fail
        go_region_held3 (fun W => (W.cell? ⟨b, 1 + k, none⟩).isSome = true ∧ W.frozen? ⟨b, 1 + k, none⟩ = false)
          (first | exact ⟨congrArg Option.isSome c1, f1⟩ | exact ⟨congrArg Option.isSome t1, t2⟩ | exact ⟨congrArg Option.isSome (World.cell?_setCell_same' _ _ _ (congrArg Option.isSome t1)), World.rowIs.frozen (World.rowIs.set hro6 (1 + k) _) _⟩)
          (first | (go_at_call 18; refine (PFull_any q v tv s k _ _ hk6 HS.out (H.out.keep0 HF.out.drew)).mono ?_; rintro e w6 ⟨t6, v6, rfl, how⟩; have hro6 := how.f.row (World.rowIs.drew HRO.out) (fun h => h); have t1 := cell_fr how.f c1 (fun h => h); have t2 := World.rowIs.frozen hro6 (1 + k)))
        have hnx := NewWRel.next (small := false) hk6 (World.rowIs.drew HRO.out) (fun j hj => (HT.out j hj).keep0 (Fr.refl _ _).drew) HN.out HB.out HF.out.drew how.f how
        clear hro6 t1 t2 c1 f1 how HRO HT HN HB HF
        have HNX := Lib.hid hnx; clear hnx
        go_wp2
        go_roundw
        case rel => exact HNX.out _ (by go_num)
        case measure => simp [intOf]; omega
    · obtain rfl : k = 6 := by omega
      go_wp2
      go_ret
      refine ⟨b, T, V, rfl, ⟨HRO.out, HT.out⟩, HF.out, fun i hi => ?_⟩
      rcases hi with rfl | ⟨k, hk, hi⟩
      · exact HB.out
      · exact (HN.out k i hk hi).1
end Go.Proofs.YteedndapbfihaaaGreat
/- Walks: a walk's Go. -/
namespace Go.Proofs.YteedndapbfihaaaGreat
open Go.RowKit Go.Deep

def trF (nv : Value) (c e : Int) (i : Nat) : Value := if i = 0 then nv else if i = 1 then .int .i64 c else .int .i64 e
def GoPost (R : List Int × Int × Int) (w : World) (e : Ending) (w' : World) : Prop :=
  ∃ nv, e = .returned (.agg #[nv, .int .i64 R.2.1, .int .i64 R.2.2]) ∧ Sl w' w.heap.size nv R.1 ∧ Fr NoB w w'
theorem CostN_any (b : Nat) (x y : Int) (C : Nat → Nat → Int) (w : World) (hC : CAt w b 108 C) :
    Calls Tryz.prog 37 #[.pointer (some ⟨b, 0, none⟩), .int .i64 x, .int .i64 y] w fun e w' => e = .returned (.int .i64 (Wk.costN C x y)) ∧ w = w' := by
  by_cases h : 0 ≤ x ∧ x < 6 ∧ 0 ≤ y ∧ y < 6
  · obtain ⟨a, rfl⟩ := Int.eq_ofNat_of_zero_le h.1
    obtain ⟨c, rfl⟩ := Int.eq_ofNat_of_zero_le h.2.2.1
    have e : Wk.costN C a c = C a c := by unfold Wk.costN; rw [if_pos h, Int.toNat_natCast, Int.toNat_natCast]
    rw [e]
    exact Cost_yes b a c C w (by omega) (by omega) hC
  · have e : Wk.costN C x y = 0 := by unfold Wk.costN; rw [if_neg h]
    rw [e]
    exact Cost_no b x y w h
theorem tr_cells {w : World} {tb : Nat} {t : TypeId} {nv : Value} {c e : Int} (h : w.rowIs tb t 3 (trF nv c e)) : w.cell? ⟨tb, 0, none⟩ = some nv ∧ w.cell? ⟨tb, 1, none⟩ = some (.int .i64 c) ∧ w.cell? ⟨tb, 2, none⟩ = some (.int .i64 e) :=
  ⟨World.rowIs.cell h (i := 0) (by omega), World.rowIs.cell h (i := 1) (by omega), World.rowIs.cell h (i := 2) (by omega)⟩
theorem tr_set {w : World} {tb : Nat} {t : TypeId} {f : Nat → Value} {nv : Value} {c e : Int} (h : w.rowIs tb t 3 f) : (((w.setCell ⟨tb, 0, none⟩ nv).setCell ⟨tb, 1, none⟩ (.int .i64 c)).setCell ⟨tb, 2, none⟩ (.int .i64 e)).rowIs tb t 3 (trF nv c e) := by
  refine (World.rowIs.set (World.rowIs.set (World.rowIs.set h 0 nv) 1 (.int .i64 c)) 2 (.int .i64 e)).congr (fun i hi => ?_)
  match i, hi with
  | 0, _ => rfl
  | 1, _ => rfl
  | 2, _ => rfl
theorem tr_end {w : World} {tb : Nat} {t : TypeId} {nv : Value} {c e e' : Int} (h : w.rowIs tb t 3 (trF nv c e)) : (w.setCell ⟨tb, 2, none⟩ (.int .i64 e')).rowIs tb t 3 (trF nv c e') := by
  refine (World.rowIs.set h 2 (.int .i64 e')).congr (fun i hi => ?_)
  match i, hi with
  | 0, _ => rfl
  | 1, _ => rfl
  | 2, _ => rfl
theorem tr_cost {w : World} {tb : Nat} {t : TypeId} {nv : Value} {c c' e : Int} (h : w.rowIs tb t 3 (trF nv c e)) : (w.setCell ⟨tb, 1, none⟩ (.int .i64 c')).rowIs tb t 3 (trF nv c' e) := by
  refine (World.rowIs.set h 1 (.int .i64 c')).congr (fun i hi => ?_)
  match i, hi with
  | 0, _ => rfl
  | 1, _ => rfl
  | 2, _ => rfl
theorem tr_nodes {w : World} {tb : Nat} {t : TypeId} {nv nv' : Value} {c e : Int} (h : w.rowIs tb t 3 (trF nv c e)) : (w.setCell ⟨tb, 0, none⟩ nv').rowIs tb t 3 (trF nv' c e) := by
  refine (World.rowIs.set h 0 nv').congr (fun i hi => ?_)
  match i, hi with
  | 0, _ => rfl
  | 1, _ => rfl
  | 2, _ => rfl
def TripRel (h : Int → Int) (C : Nat → Nat → Int) (R : List Int × Int × Int) (w : World) (tb rb : Nat) (g : Nat) (pv : Value) (wr : World) : Prop :=
  ∃ (out : List Int) (c p : Int) (nv : Value), pv = .int .i64 p ∧ Wk.tripF h C g out c p = R ∧ out.Nodup ∧ (∀ y ∈ out, Nt.isN y) ∧ out.length + g = 7 ∧ 0 ≤ c ∧ c ≤ 15 * (out.length : Int) ∧
    Sl wr w.heap.size nv out ∧ wr.rowIs tb 66 3 (trF nv c (-1)) ∧ wr.rowIs rb 66 3 (trF (.slice none 0 0) 0 0) ∧ Fr NoB w wr
set_option maxRecDepth 100000 in
set_option maxHeartbeats 8000000 in
theorem WGo_any (b : Nat) (T : Nat → Nat) (V : Nat → Value) (L : Nat → List Tb.Rt) (q : PIds) (v tv : Value) (s : Fb.PT) (h : Int → Int) (src a : Int) (w : World) (hw : WkAt w b q.p T V L) (hp : PAt w q v tv s) (hC : Lk.CostOK s.t.C)
    (hL : ∀ k, k < 6 → (L k).length ≤ 1000 ∧ Tb.look (L k) a = h k) :
    Calls Tryz.prog 34 #[.pointer (some ⟨b, 0, none⟩), .int .i64 src, .int .i64 a] w (GoPost (Wk.tripT h s.t.C src) w) := by
  have hr : Wk.tripF h s.t.C 7 [] 0 src = Wk.tripT h s.t.C src := rfl
  generalize Wk.tripT h s.t.C src = R at *
  have HW := Lib.hid hw; clear hw; have HP := Lib.hid hp; clear hp; have HL := Lib.hid hL; clear hL; have HR := Lib.hid hr; clear hr; have HC := Lib.hid hC; clear hC
  go_enter Tryz.func34, Tryz.ntmps34
  go_wp2
  refine wp_name fun w2 hw2 => ?_
  have hf : Fr NoB w w2 := by rw [hw2]; exact ((Fr.refl _ _).alloc _).alloc _
  have hrb : w2.rowIs w.heap.size 66 3 (trF (.slice none 0 0) 0 0) := by
    rw [hw2]
    have h1 : (w.alloc (.cells #[.slice none 0 0, .int .i64 0, .int .i64 0] 66)).rowIs w.heap.size 66 3 (trF (.slice none 0 0) 0 0) := World.rowIs_alloc w _ _ _ (fun i hi => by
      match i, hi with
      | 0, _ => rfl
      | 1, _ => rfl
      | 2, _ => rfl)
    exact ((Fr.refl NoB _).alloc _).row h1 (fun h => h)
  have htb : w2.rowIs (w.heap.size + 1) 66 3 (trF (.slice none 0 0) 0 (-1)) := by
    rw [hw2]
    have h1 := World.rowIs_alloc (w.alloc (.cells #[.slice none 0 0, .int .i64 0, .int .i64 0] 66)) #[.slice none 0 0, .int .i64 0, .int .i64 (-1)] 66 (trF (.slice none 0 0) 0 (-1)) (fun i hi => by
      match i, hi with
      | 0, _ => rfl
      | 1, _ => rfl
      | 2, _ => rfl)
    have e : (w.alloc (.cells #[.slice none 0 0, .int .i64 0, .int .i64 0] 66)).heap.size = w.heap.size + 1 := by simp
    rw [e] at h1
    exact h1
  clear hw2
  obtain ⟨rb, hrbe⟩ : ∃ rb, rb = w.heap.size := ⟨_, rfl⟩
  have hz : w.heap.size ≤ rb := by omega
  rw [← hrbe] at hrb htb ⊢
  clear hrbe
  obtain ⟨tb, htbe⟩ : ∃ tb, tb = rb + 1 := ⟨_, rfl⟩
  have hz2 : w.heap.size ≤ tb ∧ tb ≠ rb := by omega
  rw [← htbe] at htb ⊢
  clear htbe
  have HF := Lib.hid hf; clear hf; have HRB := Lib.hid hrb; clear hrb; have HTB := Lib.hid htb; clear htb; have HZ := Lib.hid hz; clear hz; have HZ2 := Lib.hid hz2; clear hz2
  go_loopg [8] 7 (fun g pv wr => TripRel h s.t.C R w tb rb g pv wr)
  case atStart => exact ⟨[], 0, src, .slice none 0 0, rfl, HR.out, List.nodup_nil, fun y hy => by (cases hy), rfl, by omega, by simp, Sl.nil _ _, HTB.out, HRB.out, HF.out⟩
  case round =>
    clear HR HF HRB HTB
    obtain ⟨out, c, p, nv, rfl, hr, hnd, hall, hlen, hc0, hc1, ho, ht, hrr, hf⟩ := hrel
    have h6 : out.length ≤ 6 := nodup_len 6 out hnd (fun y hy => hall y hy)
    obtain ⟨al, nc, rfl, jj⟩ := ownsRow_rd ho
    clear jj
    obtain ⟨t0, t1, t2⟩ := tr_cells ht
    obtain ⟨r0, r1, r2⟩ := tr_cells hrr
    have tf := fun i => World.rowIs.frozen ht i
    have rf := fun i => World.rowIs.frozen hrr i
    have tf0 := tf 0
    have tf1 := tf 1
    have tf2 := tf 2
    have rf0 := rf 0
    have rf1 := rf 1
    have rf2 := rf 2
    clear tf rf
    have HR := Lib.hid hr; clear hr; have HND := Lib.hid hnd; clear hnd; have HALL := Lib.hid hall; clear hall; have HLEN := Lib.hid hlen; clear hlen; have HO := Lib.hid ho; clear ho; have HF := Lib.hid hf; clear hf; have H6 := Lib.hid h6; clear h6; have HT := Lib.hid ht; clear ht; have HRR := Lib.hid hrr; clear hrr; have HC0 := Lib.hid hc0; clear hc0; have HC1 := Lib.hid hc1; clear hc1
    obtain ⟨f, rfl⟩ : ∃ f, gk = f + 1 := ⟨gk - 1, by have := HLEN.out; have := H6.out; omega⟩
    have hr2 := HR.out
    by_cases hp : Nt.isN p
    · by_cases hm : p ∈ out
      · have hmd : decide (p ∈ out) = true := by simp [hm]
        rw [Wk.tripF, if_pos hp, if_pos hm] at hr2
        clear HR hm
        subst hr2
        obtain ⟨p0, p1⟩ := hp
        have P0 := Lib.hid p0; clear p0; have P1 := Lib.hid p1; clear p1
        go_wp2_with fail
        refine (Node_yes _ _ P0.out P1.out).mono ?_; rintro e w' ⟨rfl, rfl⟩
        go_wp2_with fail
        refine (Contains_any w.heap.size _ out p _ (by have := H6.out; omega) HO.out).mono ?_
        rintro e w' ⟨rfl, rfl⟩
        go_upto_region 6 with fail
        refine wp_name fun w3 hw3 => ?_
        have hts : Fr (OneB tb) wr w3 := by rw [hw3]; exact (Fr.refl _ _).set1 _ _
        have ht3 : w3.rowIs tb 66 3 (trF (.slice al out.length nc) c (-2)) := by rw [hw3]; exact tr_end HT.out
        have hr3 := hts.row HRR.out (fun e => HZ2.out.2 e.symm)
        have ho3 : Sl w3 w.heap.size (.slice al out.length nc) out := own_keep HO.out hts (fun g hg e => row_own_apart HT.out HO.out (by decide) (by cases e; exact hg))
        have hf3 : Fr NoB w w3 := by rw [hw3]; exact HF.out.setNew HZ2.out.1 _ _
        clear hw3 hts HT HRR HO HF t0 t1 t2 r0 r1 r2 tf0 tf1 tf2 rf0 rf1 rf2
        obtain ⟨t0, t1, t2⟩ := tr_cells ht3
        obtain ⟨r0, r1, r2⟩ := tr_cells hr3
        have rf0 := World.rowIs.frozen hr3 0
        have rf1 := World.rowIs.frozen hr3 1
        have rf2 := World.rowIs.frozen hr3 2
        have HO := Lib.hid ho3; clear ho3; have HRR := Lib.hid hr3; clear hr3; have HF := Lib.hid hf3; clear hf3
        go_wp2
        refine bodyPost_ret (v := .agg #[.slice al out.length nc, .int .i64 (c), .int .i64 (-2)]) ?_ rfl ⟨_, rfl, own_keep HO.out (((Fr.refl (OneB rb) w3).set1 _ _).set1 _ _ |>.set1 _ _) (fun g hg e => row_own_apart HRR.out HO.out (by decide) (by cases e; exact hg)), ((HF.out.setNew HZ.out _ _).setNew HZ.out _ _).setNew HZ.out _ _⟩
        have hR := tr_set (nv := .slice al out.length nc) (c := c) (e := -2) HRR.out
        obtain ⟨s0, s1, s2⟩ := tr_cells hR
        clear hR
        generalize (((w3.setCell ⟨rb, 0, none⟩ (.slice al out.length nc)).setCell ⟨rb, 1, none⟩ (.int .i64 (c))).setCell ⟨rb, 2, none⟩ (.int .i64 (-2))) = W5 at *
        simp [results, Tryz.results34, go_sem, s0, s1, s2]
      · have hmd : decide (p ∈ out) = false := by simp [hm]
        rw [Wk.tripF, if_pos hp, if_neg hm] at hr2
        have hp' := hp
        obtain ⟨p0, p1⟩ := hp'
        obtain ⟨k, rfl⟩ := Int.eq_ofNat_of_zero_le p0
        have hk : k < 6 := by omega
        clear HR p0 p1
        have HR := Lib.hid hr2; clear hr2; have HM := Lib.hid hm; clear hm; have HPN := Lib.hid hp; clear hp
        go_wp2_with fail
        refine (Node_yes _ _ (by omega) (by omega)).mono ?_; rintro e w' ⟨rfl, rfl⟩
        go_wp2_with fail
        refine (Contains_any w.heap.size _ out k _ (by have := H6.out; omega) HO.out).mono ?_
        rintro e w' ⟨rfl, rfl⟩
        go_wp2_with (at_builtin; refine app_int' rfl (.tmp 21) (.tmp 23) 64 rfl Tryz.underlying64 Tryz.info3 w.heap.size (.slice al out.length nc) out rfl (HO.out.alloc _) ⟨wr.heap.size, 0, none⟩ k rfl (by simp) ?h1 ?h2 ?_)
        case h1 => have := H6.out; omega
        case h2 => have := HF.out.size; simp; omega
        · intro v' w6 h1 h2
          have hal : Fr NoB wr (wr.alloc (.cells #[.int .i64 k] 3)) := (Fr.refl _ _).alloc _
          have hown := World.ownsRow.alloc HO.out (.cells #[.int .i64 k] 3)
          have ht6 := h2.row (hal.row HT.out (fun h => h)) (row_own_apart (hal.row HT.out (fun h => h)) hown (by decide))
          have hr6 := h2.row (hal.row HRR.out (fun h => h)) (row_own_apart (hal.row HRR.out (fun h => h)) hown (by decide))
          have hf6 : Fr NoB w w6 := (HF.out.alloc _).ownB hown (Nat.le_refl _) h2
          obtain ⟨al6, nc6, rfl, jj⟩ := ownsRow_rd h1
          have e6 : (out ++ [(k : Int)]).length = out.length + 1 := by simp
          rw [e6] at h1 ⊢
          clear e6
          clear jj h2 hown hal HF HO HT HRR t0 t1 t2 r0 r1 r2 tf0 tf1 tf2 rf0 rf1 rf2
          obtain ⟨t0, t1, t2⟩ := tr_cells ht6
          have tf0 := World.rowIs.frozen ht6 0
          have HO := Lib.hid h1; clear h1; have HT6 := Lib.hid ht6; clear ht6; have HRR := Lib.hid hr6; clear hr6; have HF := Lib.hid hf6; clear hf6
          go_upto_region 8 with fail
          refine wp_name fun w7 hw7 => ?_
          have hts : Fr (OneB tb) w6 w7 := by rw [hw7]; exact (Fr.refl _ _).set1 _ _
          have ht7 : w7.rowIs tb 66 3 (trF (.slice al6 (out.length + 1) nc6) c (-1)) := by rw [hw7]; exact tr_nodes HT6.out
          have hr7 := hts.row HRR.out (fun e => HZ2.out.2 e.symm)
          have ho7 : Sl w7 w.heap.size (.slice al6 (out.length + 1) nc6) (out ++ [(k : Int)]) := own_keep HO.out hts (fun g hg e => row_own_apart HT6.out HO.out (by decide) (by cases e; exact hg))
          have hf7 : Fr NoB w w7 := by rw [hw7]; exact HF.out.setNew HZ2.out.1 _ _
          clear hw7 hts HT6 HRR HO HF t0 t1 t2 tf0
          have cT := (HW.out.keep0 hf7).cT hk
          have hkb : (k : Int) < 6 := by omega
          obtain ⟨hl1, hl2⟩ := HL.out k hk
          have HO := Lib.hid ho7; clear ho7; have HT := Lib.hid ht7; clear ht7; have HRR := Lib.hid hr7; clear hr7; have HF := Lib.hid hf7; clear hf7; have HL1 := Lib.hid hl1; clear hl1; have HL2 := Lib.hid hl2; clear hl2
          go_wp2_with fail
          refine (LookT_any (T k) (V k) (L k) a _ HL1.out ((HW.out.keep0 HF.out).tab k hk)).mono ?_
          rw [HL2.out]
          rintro e w8 ⟨rfl, hf⟩
          have HT8 := Lib.hid (hf.row HT.out (fun h => h))
          have HR8 := Lib.hid (hf.row HRR.out (fun h => h))
          have HO8 : Hid (Sl w8 w.heap.size (.slice al6 (out.length + 1) nc6) (out ++ [(k : Int)])) := own_keep HO.out hf (fun _ _ h => h)
          have HF8 := Lib.hid (HF.out.trans hf)
          clear HT HRR HO HF hf cT
          have hr3 := HR.out
          clear HR
          by_cases hh : h k = k
          · rw [if_pos hh] at hr3
            subst hr3
            have hhb : (h k == (k : Int)) = true := by simpa using hh
            have tf2 := World.rowIs.frozen HT8.out 2
            obtain ⟨t0, t1, t2⟩ := tr_cells HT8.out
            clear hh
            go_upto_region 11 with fail
            refine wp_name fun w9 hw9 => ?_
            have hts : Fr (OneB tb) w8 w9 := by rw [hw9]; exact (Fr.refl _ _).set1 _ _
            have ht9 : w9.rowIs tb 66 3 (trF (.slice al6 (out.length + 1) nc6) c k) := by rw [hw9]; exact tr_end HT8.out
            have hr9 := hts.row HR8.out (fun e => HZ2.out.2 e.symm)
            have ho9 : Sl w9 w.heap.size (.slice al6 (out.length + 1) nc6) (out ++ [(k : Int)]) := own_keep HO8.out hts (fun g hg e => row_own_apart HT8.out HO8.out (by decide) (by cases e; exact hg))
            have hf9 : Fr NoB w w9 := by rw [hw9]; exact HF8.out.setNew HZ2.out.1 _ _
            clear hw9 hts HT8 HR8 HO8 HF8 t0 t1 t2 tf2
            obtain ⟨t0, t1, t2⟩ := tr_cells ht9
            obtain ⟨r0, r1, r2⟩ := tr_cells hr9
            have rf0 := World.rowIs.frozen hr9 0
            have rf1 := World.rowIs.frozen hr9 1
            have rf2 := World.rowIs.frozen hr9 2
            have HO := Lib.hid ho9; clear ho9; have HRR := Lib.hid hr9; clear hr9; have HF := Lib.hid hf9; clear hf9
            go_wp2
            refine bodyPost_ret (v := .agg #[.slice al6 (out.length + 1) nc6, .int .i64 (c), .int .i64 (k)]) ?_ rfl ⟨_, rfl, own_keep HO.out (((Fr.refl (OneB rb) w9).set1 _ _).set1 _ _ |>.set1 _ _) (fun g hg e => row_own_apart HRR.out HO.out (by decide) (by cases e; exact hg)), ((HF.out.setNew HZ.out _ _).setNew HZ.out _ _).setNew HZ.out _ _⟩
            have hR := tr_set (nv := .slice al6 (out.length + 1) nc6) (c := c) (e := k) HRR.out
            obtain ⟨s0, s1, s2⟩ := tr_cells hR
            clear hR
            generalize (((w9.setCell ⟨rb, 0, none⟩ (.slice al6 (out.length + 1) nc6)).setCell ⟨rb, 1, none⟩ (.int .i64 (c))).setCell ⟨rb, 2, none⟩ (.int .i64 (k))) = W5 at *
            simp [results, Tryz.results34, go_sem, s0, s1, s2]
          · rw [if_neg hh] at hr3
            have hhb : (h k == (k : Int)) = false := by simpa using hh
            have hcn : 0 ≤ Wk.costN s.t.C k (h k) ∧ Wk.costN s.t.C k (h k) ≤ 15 := by
              unfold Wk.costN
              split
              · rename_i hi
                have h1 := HC.out.lo (k : Int).toNat (h k).toNat (by omega) (by omega)
                have h2 := HC.out.hi (k : Int).toNat (h k).toNat (by omega) (by omega)
                omega
              · omega
            have hcall := fun W (hW : Fr NoB w W) => CostN_any q.x.L k (h k) s.t.C W ((HP.out.keep0 hW).net.links)
            have c0 := (HW.out.keep0 HF8.out).c0
            have p0 := (HP.out.keep0 HF8.out).p0
            have n0 := (HP.out.keep0 HF8.out).net.c0
            have tf1 := World.rowIs.frozen HT8.out 1
            obtain ⟨t0, t1, t2⟩ := tr_cells HT8.out
            generalize hcd : Wk.costN s.t.C k (h k) = d at *
            generalize h k = hop at *
            have hc0 := HC0.out
            have hc1 := HC1.out
            have hc6 := H6.out
            have hwr : IntKind.i64.wrap (c + d) = c + d := by simp [IntKind.wrap, IntKind.signed, IntKind.bits]; omega
            have hfin : ∀ n : Nat, TripRel h s.t.C R w tb rb f (.int .i64 hop) ((w8.drewN n).setCell ⟨tb, 1, none⟩ (.int .i64 (c + d))) := fun n => by
              have hts : Fr (OneB tb) w8 ((w8.drewN n).setCell ⟨tb, 1, none⟩ (.int .i64 (c + d))) := ((Fr.refl _ _).drewN n).set1 _ _
              have hlen := HLEN.out
              refine ⟨out ++ [(k : Int)], c + d, hop, .slice al6 (out.length + 1) nc6, rfl, hr3, ?_, ?_, by rw [List.length_append]; simp; omega, by omega, by rw [List.length_append]; simp; omega, own_keep HO8.out hts (fun g hg e => row_own_apart HT8.out HO8.out (by decide) (by cases e; exact hg)), tr_cost (w := w8.drewN n) HT8.out, hts.row HR8.out (fun e => HZ2.out.2 e.symm), (HF8.out.drewN n).setNew HZ2.out.1 _ _⟩
              · refine List.nodup_append.2 ⟨HND.out, by simp, fun x hx y hy => ?_⟩
                simp at hy
                subst hy
                exact fun e => HM.out (e ▸ hx)
              · intro y hy
                rcases List.mem_append.1 hy with h | h
                · exact HALL.out y h
                · simp at h; subst h; exact HPN.out
            have HCALL := Lib.hid hcall; clear hcall; have HFIN := Lib.hid hfin; clear hfin
            clear hr3 hcn
            clear hh hcd
            go_wp2_with fail
            go_region_law (first | (go_simp; go_at_call 37; refine (HCALL.out _ (HF8.out.drewN _)).mono ?_; rintro e w' ⟨rfl, rfl⟩) | (go_simp; go_at_call 37; refine (HCALL.out _ HF8.out.drew).mono ?_; rintro e w' ⟨rfl, rfl⟩))
            all_goals (clear c0 p0 n0 tf1 t0 t1 t2 hc0 hc1 hc6 hwr hhb HCALL; go_wp2; go_roundg f; (case rel => exact HFIN.out _); (case measure => omega))
    · rw [Wk.tripF, if_neg hp] at hr2
      clear HR
      subst hr2
      have HPN := Lib.hid hp; clear hp
      go_wp2_with fail
      refine (Node_no _ _ HPN.out).mono ?_; rintro e w' ⟨rfl, rfl⟩
      go_wp2
      refine bodyPost_ret (v := .agg #[.slice al out.length nc, .int .i64 (c), .int .i64 (-1)]) ?_ rfl ⟨_, rfl, own_keep HO.out (((Fr.refl (OneB rb) wr).set1 _ _).set1 _ _ |>.set1 _ _) (fun g hg e => row_own_apart HRR.out HO.out (by decide) (by cases e; exact hg)), ((HF.out.setNew HZ.out _ _).setNew HZ.out _ _).setNew HZ.out _ _⟩
      have hR := tr_set (nv := .slice al out.length nc) (c := c) (e := -1) HRR.out
      obtain ⟨s0, s1, s2⟩ := tr_cells hR
      clear hR
      generalize (((wr.setCell ⟨rb, 0, none⟩ (.slice al out.length nc)).setCell ⟨rb, 1, none⟩ (.int .i64 (c))).setCell ⟨rb, 2, none⟩ (.int .i64 (-1))) = W5 at *
      simp [results, Tryz.results34, go_sem, s0, s1, s2]
end Go.Proofs.YteedndapbfihaaaGreat
/- SameRoutes of the same; the document's Look in a table. -/
namespace Go.Proofs.YteedndapbfihaaaGreat
open Go.RowKit Go.Deep

theorem RLook_wf (a : Option Addr) (c : Nat) (L : List Tb.Rt) (x : Int) (w : World) (hl : L.length ≤ 1000) (hw : Tb.Wf L) (h : Rs w a L) :
    Calls Tryz.prog 17 #[.slice a L.length c, .int .i64 x] w (IntFr (Tb.look L x) w) := by
  have k := RLook_any a c L x w hl h
  rw [(Tb.look_both hw x).1] at k
  exact k
end Go.Proofs.YteedndapbfihaaaGreat
