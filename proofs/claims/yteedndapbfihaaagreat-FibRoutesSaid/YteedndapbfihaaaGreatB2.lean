/- Walks over package links: Node, New, Cost, Set; over handpostref: IsNode, Map.Set. -/
import Derived.Test.YteedndapbfihaaaGreatB1
import Derived.Deep.RegionHeld3
namespace Go.Proofs.YteedndapbfihaaaGreat
open Go.RowKit Go.Deep

set_option maxHeartbeats 400000 in
theorem Node_yes (n : Int) (w : World) (h0 : 0 ≤ n) (h1 : n < 6) :
    Calls Tryz.prog 43 #[.int .i64 n] w fun e w' => e = .returned (.bool true) ∧ w = w' := by
  go_enter Tryz.func43, Tryz.ntmps43
  go_wp2
  go_ret
  exact ⟨rfl, rfl⟩
set_option maxHeartbeats 400000 in
theorem Node_no (n : Int) (w : World) (h : ¬ (0 ≤ n ∧ n < 6)) :
    Calls Tryz.prog 43 #[.int .i64 n] w fun e w' => e = .returned (.bool false) ∧ w = w' := by
  by_cases h0 : 0 ≤ n
  · have h1 : ¬ n < 6 := by omega
    clear h
    go_enter Tryz.func43, Tryz.ntmps43
    go_wp2
    go_ret
    exact ⟨rfl, rfl⟩
  · clear h
    go_enter Tryz.func43, Tryz.ntmps43
    go_wp2
    go_ret
    exact ⟨rfl, rfl⟩
def isNode (n : Int) : Bool := decide (0 ≤ n ∧ n < 6)
theorem Node_any (n : Int) (w : World) :
    Calls Tryz.prog 43 #[.int .i64 n] w fun e w' => e = .returned (.bool (isNode n)) ∧ w = w' := by
  by_cases h : 0 ≤ n ∧ n < 6
  · refine (Node_yes n w h.1 h.2).mono ?_
    rintro e w' ⟨rfl, rfl⟩
    exact ⟨by simp [isNode, h], rfl⟩
  · refine (Node_no n w h).mono ?_
    rintro e w' ⟨rfl, rfl⟩
    exact ⟨by simp only [isNode, h, decide_false], rfl⟩
set_option maxHeartbeats 400000 in
theorem RNode_yes (n : Int) (w : World) (h0 : 0 ≤ n) (h1 : n < 6) :
    Calls Tryz.prog 20 #[.int .i64 n] w fun e w' => e = .returned (.bool true) ∧ w = w' := by
  go_enter Tryz.func20, Tryz.ntmps20
  go_wp2
  go_ret
  exact ⟨rfl, rfl⟩
set_option maxHeartbeats 400000 in
theorem RNode_no (n : Int) (w : World) (h : ¬ (0 ≤ n ∧ n < 6)) :
    Calls Tryz.prog 20 #[.int .i64 n] w fun e w' => e = .returned (.bool false) ∧ w = w' := by
  by_cases h0 : 0 ≤ n
  · have h1 : ¬ n < 6 := by omega
    clear h
    go_enter Tryz.func20, Tryz.ntmps20
    go_wp2
    go_ret
    exact ⟨rfl, rfl⟩
  · clear h
    go_enter Tryz.func20, Tryz.ntmps20
    go_wp2
    go_ret
    exact ⟨rfl, rfl⟩
theorem RNode_any (n : Int) (w : World) :
    Calls Tryz.prog 20 #[.int .i64 n] w fun e w' => e = .returned (.bool (isNode n)) ∧ w = w' := by
  by_cases h : 0 ≤ n ∧ n < 6
  · refine (RNode_yes n w h.1 h.2).mono ?_
    rintro e w' ⟨rfl, rfl⟩
    exact ⟨by simp [isNode, h], rfl⟩
  · refine (RNode_no n w h).mono ?_
    rintro e w' ⟨rfl, rfl⟩
    exact ⟨by simp only [isNode, h, decide_false], rfl⟩
/-- What links cost, in a block of 36 cells. -/
def CAt (w : World) (b : Nat) (t : TypeId) (C : Nat → Nat → Int) : Prop := w.rowIs b t 36 (fun i => .int .i64 (C (i / 6) (i % 6)))
theorem CAt.cell {w : World} {b : Nat} {t : TypeId} {C : Nat → Nat → Int} (h : CAt w b t C) {x y : Nat} (hx : x < 6) (hy : y < 6) : w.cell? ⟨b, x * 6 + y, none⟩ = some (.int .i64 (C x y)) := by
  have := World.rowIs.cell h (i := x * 6 + y) (by omega)
  rw [show (x * 6 + y) / 6 = x from by omega, show (x * 6 + y) % 6 = y from by omega] at this
  exact this
def updC (C : Nat → Nat → Int) (a b : Nat) (v : Int) : Nat → Nat → Int := fun x y => if x = a ∧ y = b then v else C x y
theorem CAt.set {w : World} {b : Nat} {t : TypeId} {C : Nat → Nat → Int} (h : CAt w b t C) {x y : Nat} (hy : y < 6) (v : Int) : CAt (w.setCell ⟨b, x * 6 + y, none⟩ (.int .i64 v)) b t (updC C x y v) := by
  refine (World.rowIs.set h (x * 6 + y) (.int .i64 v)).congr ?_
  intro i hi
  unfold updC
  by_cases e : i = x * 6 + y
  · subst e
    rw [if_pos rfl, if_pos ⟨by omega, by omega⟩]
  · rw [if_neg e, if_neg (by omega)]
set_option maxHeartbeats 400000 in
theorem Cost_yes (b : Nat) (x y : Nat) (C : Nat → Nat → Int) (w : World) (hx : x < 6) (hy : y < 6) (hC : CAt w b 108 C) :
    Calls Tryz.prog 37 #[.pointer (some ⟨b, 0, none⟩), .int .i64 x, .int .i64 y] w fun e w' => e = .returned (.int .i64 (C x y)) ∧ w = w' := by
  have hc := hC.cell hx hy
  clear hC
  go_enter Tryz.func37, Tryz.ntmps37
  go_wp2_with (first | (go_at_call 43; refine (Node_yes _ _ (by omega) (by omega)).mono ?_; rintro e w' ⟨rfl, rfl⟩))
  go_ret
  exact ⟨rfl, rfl⟩
/-- Both ways of a link. -/
def setC (C : Nat → Nat → Int) (a b : Nat) (v : Int) : Nat → Nat → Int := updC (updC C a b v) b a v
def SetPost (b : Nat) (t : TypeId) (C : Nat → Nat → Int) (w : World) (e : Ending) (w' : World) : Prop := e = .returned (.int .i64 0) ∧ CAt w' b t C ∧ Fr (OneB b) w w'
set_option maxHeartbeats 400000 in
theorem Set_ok (b x y : Nat) (v : Int) (C : Nat → Nat → Int) (w : World) (hx : x < 6) (hy : y < 6) (hxy : x ≠ y) (h0 : 0 ≤ v) (h1 : v ≤ 15) (hC : CAt w b 108 C) :
    Calls Tryz.prog 106 #[.pointer (some ⟨b, 0, none⟩), .int .i64 x, .int .i64 y, .int .i64 v] w (SetPost b 108 (setC C x y v) w) := by
  have c1 := hC.cell hx hy
  have c2 := hC.cell hy hx
  have f1 := World.rowIs.frozen hC (x * 6 + y)
  have f2 := World.rowIs.frozen hC (y * 6 + x)
  have HC := Lib.hid hC; clear hC
  have hb : ((x : Int) == (y : Int)) = false := by simp; omega
  go_enter Tryz.func106, Tryz.ntmps106
  go_wp2_with (first | (go_at_call 43; refine (Node_yes _ _ (by omega) (by omega)).mono ?_; rintro e w' ⟨rfl, rfl⟩))
  go_region
  go_wp2
  go_ret
  exact ⟨rfl, World.rowIs.drew ((HC.out.set hy v).set hx v), (((Fr.refl _ _).set1 _ _).set1 _ _).drew⟩
set_option maxHeartbeats 1000000 in
theorem Set_no (b : Nat) (x y v : Int) (w : World) (h : ¬ (0 ≤ x ∧ x < 6 ∧ 0 ≤ y ∧ y < 6 ∧ x ≠ y ∧ 0 ≤ v ∧ v ≤ 15)) :
    Calls Tryz.prog 106 #[.pointer (some ⟨b, 0, none⟩), .int .i64 x, .int .i64 y, .int .i64 v] w fun e w' => e = .returned (.int .i64 1) ∧ w = w' := by
  by_cases hx : 0 ≤ x ∧ x < 6
  · obtain ⟨hx0, hx1⟩ := hx
    by_cases hy : 0 ≤ y ∧ y < 6
    · obtain ⟨hy0, hy1⟩ := hy
      by_cases hxy : x = y
      · subst hxy
        clear h
        go_enter Tryz.func106, Tryz.ntmps106
        go_wp2_with (first | (go_at_call 43; refine (Node_yes _ _ (by omega) (by omega)).mono ?_; rintro e w' ⟨rfl, rfl⟩))
        go_ret
        exact ⟨rfl, rfl⟩
      · have hb : (x == y) = false := by simp; omega
        by_cases hv : v < 0
        · clear h hxy
          go_enter Tryz.func106, Tryz.ntmps106
          go_wp2_with (first | (go_at_call 43; refine (Node_yes _ _ (by omega) (by omega)).mono ?_; rintro e w' ⟨rfl, rfl⟩))
          go_ret
          exact ⟨rfl, rfl⟩
        · have hv1 : 15 < v := by omega
          have hv0 : 0 ≤ v := by omega
          clear h hxy hv
          go_enter Tryz.func106, Tryz.ntmps106
          go_wp2_with (first | (go_at_call 43; refine (Node_yes _ _ (by omega) (by omega)).mono ?_; rintro e w' ⟨rfl, rfl⟩))
          go_ret
          exact ⟨rfl, rfl⟩
    · have HY := Lib.hid hy; clear hy h
      go_enter Tryz.func106, Tryz.ntmps106
      go_wp2_with fail
      refine (Node_yes _ _ hx0 hx1).mono ?_; rintro e w' ⟨rfl, rfl⟩
      go_wp2_with fail
      refine (Node_no _ _ HY.out).mono ?_; rintro e w' ⟨rfl, rfl⟩
      go_wp2
      go_ret
      exact ⟨rfl, rfl⟩
  · have HX := Lib.hid hx; clear hx h
    go_enter Tryz.func106, Tryz.ntmps106
    go_wp2_with fail
    refine (Node_no _ _ HX.out).mono ?_; rintro e w' ⟨rfl, rfl⟩
    go_wp2
    go_ret
    exact ⟨rfl, rfl⟩
def NewLPost (w : World) (e : Ending) (w' : World) : Prop := e = .returned (.pointer (some ⟨w.heap.size, 0, none⟩)) ∧ CAt w' w.heap.size 108 (fun _ _ => 0) ∧ Fr NoB w w'
set_option maxHeartbeats 400000 in
theorem NewL (w : World) : Calls Tryz.prog 94 #[] w (NewLPost w) := by
  go_enter Tryz.func94, Tryz.ntmps94
  go_wp2
  go_ret
  exact ⟨rfl, rowIs_new w 36 (.int .i64 0) 108, (Fr.refl _ _).alloc _⟩
end Go.Proofs.YteedndapbfihaaaGreat
/- A slice of integers: what append asks of the type. -/
namespace Go.Proofs.YteedndapbfihaaaGreat
open Go.RowKit Go.Deep

theorem Tryz.info3 : (Tryz.prog.info? 3).map (fun i => (i.zero, i.size, i.bytes)) = some (some (.int .i64 0), 1, 8) := by kernel_rfl
end Go.Proofs.YteedndapbfihaaaGreat
/- Walks over package links: Of. -/
namespace Go.Proofs.YteedndapbfihaaaGreat
open Go.RowKit Go.Deep

def ofL (C : Nat → Nat → Int) (a : Nat) (k : Nat) : List Nat := (List.range k).filter (fun b => decide (0 < C a b))
theorem ofL_hit (C : Nat → Nat → Int) (a k : Nat) (h : 0 < C a k) : ofL C a (k + 1) = ofL C a k ++ [k] := by simp [ofL, List.range_succ, h]
theorem ofL_miss (C : Nat → Nat → Int) (a k : Nat) (h : ¬ 0 < C a k) : ofL C a (k + 1) = ofL C a k := by simp [ofL, List.range_succ, h]
theorem ofL_le (C : Nat → Nat → Int) (a k : Nat) : (ofL C a k).length ≤ k := by
  have := List.length_filter_le (fun b => decide (0 < C a b)) (List.range k)
  simpa [ofL] using this
def ints (l : List Nat) : List Int := l.map (fun (n : Nat) => (n : Int))
def OfPost (C : Nat → Nat → Int) (a : Nat) (w : World) (e : Ending) (w' : World) : Prop := ∃ v, e = .returned v ∧ Sl w' w.heap.size v (ints (ofL C a 6)) ∧ Fr NoB w w'
set_option maxHeartbeats 1000000 in
theorem Of_yes (b a : Nat) (C : Nat → Nat → Int) (w : World) (ha : a < 6) (hC : CAt w b 108 C) :
    Calls Tryz.prog 62 #[.pointer (some ⟨b, 0, none⟩), .int .i64 a] w (OfPost C a w) := by
  have HC := Lib.hid hC; clear hC
  go_enter Tryz.func62, Tryz.ntmps62
  go_wp2
  go_loopw [5, 7] (fun v i wr => ∃ k : Nat, k ≤ 6 ∧ i = .int .i64 k ∧ Sl wr w.heap.size v (ints (ofL C a k)) ∧ Fr NoB w wr) (fun _ i _ => 6 - (intOf i).toNat)
  case atStart => exact ⟨0, by omega, rfl, Sl.nil _ _, Fr.refl _ _⟩
  case round =>
    obtain ⟨k, hk, rfl, hown, hfr⟩ := hrel
    have HO := Lib.hid hown; clear hown
    have HF := Lib.hid hfr; clear hfr
    by_cases hk6 : k < 6
    · by_cases hp : 0 < C a k
      · go_wp2_with fail
        refine (Cost_yes _ _ _ C _ ha hk6 (HF.out.row HC.out (fun h => h))).mono ?_; rintro e w' ⟨rfl, rfl⟩
        go_wp2_with (at_builtin; go_loud (refine app_int rfl (.tmp 15) (.tmp 17) 64 rfl Tryz.underlying64 Tryz.info3 w.heap.size u5 (ints (ofL C a k)) rfl (HO.out.alloc _) ⟨wr.heap.size, 0, none⟩ k rfl (by simp) ?h1 ?h2 ?_))
        case h1 => have := ofL_le C a k; simp [ints]; omega
        case h2 => have := HF.out.size; simp; omega
        · intro v' w1 h1 h2
          have H1 := Lib.hid h1; clear h1
          have H2 := Lib.hid h2; clear h2
          go_wp2
          go_roundw
          case rel => exact ⟨k + 1, by omega, by go_num, by rw [ofL_hit C a k hp]; simpa [ints] using H1.out, (HF.out.alloc _).own H2.out⟩
          case measure => simp [intOf]; omega
      · go_wp2_with fail
        refine (Cost_yes _ _ _ C _ ha hk6 (HF.out.row HC.out (fun h => h))).mono ?_; rintro e w' ⟨rfl, rfl⟩
        go_wp2
        go_roundw
        case rel => exact ⟨k + 1, by omega, by go_num, by rw [ofL_miss C a k (by omega)]; exact HO.out, HF.out⟩
        case measure => simp [intOf]; omega
    · obtain rfl : k = 6 := by omega
      go_wp2
      go_ret
      exact ⟨_, rfl, HO.out, HF.out⟩
end Go.Proofs.YteedndapbfihaaaGreat
/- Walks: handpostref Map.Far. -/
namespace Go.Proofs.YteedndapbfihaaaGreat
open Go.RowKit Go.Deep

theorem CAt.drewN {w : World} {b : Nat} {t : TypeId} {C : Nat → Nat → Int} (h : CAt w b t C) (n : Nat) : CAt (w.drewN n) b t C := h
end Go.Proofs.YteedndapbfihaaaGreat
/- Walks: SameInts; Map.Set; what a slice of integers reads. -/
namespace Go.Proofs.YteedndapbfihaaaGreat
open Go.RowKit Go.Deep

set_option maxHeartbeats 1000000 in
theorem MSet_no (b : Nat) (x y v : Int) (w : World) (h : ¬ (0 ≤ x ∧ x < 6 ∧ 0 ≤ y ∧ y < 6 ∧ x ≠ y ∧ 0 ≤ v ∧ v ≤ 15)) :
    Calls Tryz.prog 68 #[.pointer (some ⟨b, 0, none⟩), .int .i64 x, .int .i64 y, .int .i64 v] w fun e w' => e = .returned (.int .i64 1) ∧ w = w' := by
  by_cases hx : 0 ≤ x ∧ x < 6
  · obtain ⟨hx0, hx1⟩ := hx
    by_cases hy : 0 ≤ y ∧ y < 6
    · obtain ⟨hy0, hy1⟩ := hy
      by_cases hxy : x = y
      · subst hxy
        clear h
        go_enter Tryz.func68, Tryz.ntmps68
        go_wp2_with (first | (go_at_call 20; refine (RNode_yes _ _ (by omega) (by omega)).mono ?_; rintro e w' ⟨rfl, rfl⟩))
        go_ret
        exact ⟨rfl, rfl⟩
      · have hb : (x == y) = false := by simp; omega
        by_cases hv : v < 0
        · clear h hxy
          go_enter Tryz.func68, Tryz.ntmps68
          go_wp2_with (first | (go_at_call 20; refine (RNode_yes _ _ (by omega) (by omega)).mono ?_; rintro e w' ⟨rfl, rfl⟩))
          go_ret
          exact ⟨rfl, rfl⟩
        · have hv1 : 15 < v := by omega
          have hv0 : 0 ≤ v := by omega
          clear h hxy hv
          go_enter Tryz.func68, Tryz.ntmps68
          go_wp2_with (first | (go_at_call 20; refine (RNode_yes _ _ (by omega) (by omega)).mono ?_; rintro e w' ⟨rfl, rfl⟩))
          go_ret
          exact ⟨rfl, rfl⟩
    · have HY := Lib.hid hy; clear hy h
      go_enter Tryz.func68, Tryz.ntmps68
      go_wp2_with fail
      refine (RNode_yes _ _ hx0 hx1).mono ?_; rintro e w' ⟨rfl, rfl⟩
      go_wp2_with fail
      refine (RNode_no _ _ HY.out).mono ?_; rintro e w' ⟨rfl, rfl⟩
      go_wp2
      go_ret
      exact ⟨rfl, rfl⟩
  · have HX := Lib.hid hx; clear hx h
    go_enter Tryz.func68, Tryz.ntmps68
    go_wp2_with fail
    refine (RNode_no _ _ HX.out).mono ?_; rintro e w' ⟨rfl, rfl⟩
    go_wp2
    go_ret
    exact ⟨rfl, rfl⟩
end Go.Proofs.YteedndapbfihaaaGreat
/- Walks: handpostlaw.maps: the program's links and the reference's map behind the same settings. -/
namespace Go.Proofs.YteedndapbfihaaaGreat
open Go.RowKit Go.Deep

theorem CostOK.zero : Lk.CostOK (fun _ _ => 0) := ⟨fun _ _ _ _ => by omega, fun _ _ _ _ => by omega, fun _ _ _ _ => rfl, fun _ _ => rfl⟩
theorem CostOK.set {C : Nat → Nat → Int} (h : Lk.CostOK C) {p q : Nat} (hpq : p ≠ q) {v : Int} (h0 : 0 ≤ v) (h1 : v ≤ 15) : Lk.CostOK (setC C p q v) where
  lo a b ha hb := by
    have := h.lo a b ha hb
    unfold setC updC; split
    · omega
    · split <;> omega
  hi a b ha hb := by
    have := h.hi a b ha hb
    unfold setC updC; split
    · omega
    · split <;> omega
  sym a b ha hb := by
    have := h.sym a b ha hb
    by_cases e1 : a = q ∧ b = p
    · have e2 : ¬ (b = q ∧ a = p) := by omega
      have e3 : b = p ∧ a = q := ⟨e1.2, e1.1⟩
      simp only [setC, updC, if_pos e1, if_neg e2, if_pos e3]
    · by_cases e2 : a = p ∧ b = q
      · have e3 : b = q ∧ a = p := ⟨e2.2, e2.1⟩
        simp only [setC, updC, if_neg e1, if_pos e2, if_pos e3]
      · have e3 : ¬ (b = q ∧ a = p) := fun h => e2 ⟨h.2, h.1⟩
        have e4 : ¬ (b = p ∧ a = q) := fun h => e1 ⟨h.2, h.1⟩
        simp only [setC, updC, if_neg e1, if_neg e2, if_neg e3, if_neg e4]
        exact this
  self a ha := by
    have := h.self a ha
    have e1 : ¬ (a = q ∧ a = p) := by omega
    have e2 : ¬ (a = p ∧ a = q) := by omega
    simp only [setC, updC, if_neg e1, if_neg e2]
    exact this
end Go.Proofs.YteedndapbfihaaaGreat
