/- Walks over package links: Node, New, Cost, Set; over handpostref: IsNode, Map.Set. -/
import Derived.Test.YtdpgbgapelgomaaKit
import Derived.Test.YtdpgbgapelgomaaLkMath
namespace Go.Proofs.Ytdpgbgapelgomaa
open Go.RowKit Go.Deep

set_option maxHeartbeats 400000 in
theorem Node_yes (n : Int) (w : World) (h0 : 0 ≤ n) (h1 : n < 6) :
    Calls Try.prog 18 #[.int .i64 n] w fun e w' => e = .returned (.bool true) ∧ w = w' := by
  go_enter Try.func18, Try.ntmps18
  go_wp2
  go_ret
  exact ⟨rfl, rfl⟩

set_option maxHeartbeats 400000 in
theorem Node_no (n : Int) (w : World) (h : ¬ (0 ≤ n ∧ n < 6)) :
    Calls Try.prog 18 #[.int .i64 n] w fun e w' => e = .returned (.bool false) ∧ w = w' := by
  by_cases h0 : 0 ≤ n
  · have h1 : ¬ n < 6 := by omega
    clear h
    go_enter Try.func18, Try.ntmps18
    go_wp2
    go_ret
    exact ⟨rfl, rfl⟩
  · clear h
    go_enter Try.func18, Try.ntmps18
    go_wp2
    go_ret
    exact ⟨rfl, rfl⟩

def isNode (n : Int) : Bool := decide (0 ≤ n ∧ n < 6)
theorem Node_any (n : Int) (w : World) :
    Calls Try.prog 18 #[.int .i64 n] w fun e w' => e = .returned (.bool (isNode n)) ∧ w = w' := by
  by_cases h : 0 ≤ n ∧ n < 6
  · refine (Node_yes n w h.1 h.2).mono ?_
    rintro e w' ⟨rfl, rfl⟩
    exact ⟨by simp [isNode, h], rfl⟩
  · refine (Node_no n w h).mono ?_
    rintro e w' ⟨rfl, rfl⟩
    exact ⟨by simp only [isNode, h, decide_false], rfl⟩

set_option maxHeartbeats 400000 in
theorem RNode_yes (n : Int) (w : World) (h0 : 0 ≤ n) (h1 : n < 6) :
    Calls Try.prog 19 #[.int .i64 n] w fun e w' => e = .returned (.bool true) ∧ w = w' := by
  go_enter Try.func19, Try.ntmps19
  go_wp2
  go_ret
  exact ⟨rfl, rfl⟩

set_option maxHeartbeats 400000 in
theorem RNode_no (n : Int) (w : World) (h : ¬ (0 ≤ n ∧ n < 6)) :
    Calls Try.prog 19 #[.int .i64 n] w fun e w' => e = .returned (.bool false) ∧ w = w' := by
  by_cases h0 : 0 ≤ n
  · have h1 : ¬ n < 6 := by omega
    clear h
    go_enter Try.func19, Try.ntmps19
    go_wp2
    go_ret
    exact ⟨rfl, rfl⟩
  · clear h
    go_enter Try.func19, Try.ntmps19
    go_wp2
    go_ret
    exact ⟨rfl, rfl⟩

theorem RNode_any (n : Int) (w : World) :
    Calls Try.prog 19 #[.int .i64 n] w fun e w' => e = .returned (.bool (isNode n)) ∧ w = w' := by
  by_cases h : 0 ≤ n ∧ n < 6
  · refine (RNode_yes n w h.1 h.2).mono ?_
    rintro e w' ⟨rfl, rfl⟩
    exact ⟨by simp [isNode, h], rfl⟩
  · refine (RNode_no n w h).mono ?_
    rintro e w' ⟨rfl, rfl⟩
    exact ⟨by simp only [isNode, h, decide_false], rfl⟩

/-- What links cost, in a block of 36 cells. -/
def CAt (w : World) (b : Nat) (t : TypeId) (C : Nat → Nat → Int) : Prop := w.rowIs b t 36 (fun i => .int .i64 (C (i / 6) (i % 6)))
theorem CAt.cell {w : World} {b : Nat} {t : TypeId} {C : Nat → Nat → Int} (h : CAt w b t C) {x y : Nat} (hx : x < 6) (hy : y < 6) : w.cell? ⟨b, x * 6 + y, none⟩ = some (.int .i64 (C x y)) := by
  have := World.rowIs.cell h (i := x * 6 + y) (by omega)
  rw [show (x * 6 + y) / 6 = x from by omega, show (x * 6 + y) % 6 = y from by omega] at this
  exact this

def updC (C : Nat → Nat → Int) (a b : Nat) (v : Int) : Nat → Nat → Int := fun x y => if x = a ∧ y = b then v else C x y
theorem CAt.set {w : World} {b : Nat} {t : TypeId} {C : Nat → Nat → Int} (h : CAt w b t C) {x y : Nat} (hy : y < 6) (v : Int) : CAt (w.setCell ⟨b, x * 6 + y, none⟩ (.int .i64 v)) b t (updC C x y v) := by
  refine (World.rowIs.set h (x * 6 + y) (.int .i64 v)).congr ?_
  intro i hi
  unfold updC
  by_cases e : i = x * 6 + y
  · subst e
    rw [if_pos rfl, if_pos ⟨by omega, by omega⟩]
  · rw [if_neg e, if_neg (by omega)]

set_option maxHeartbeats 400000 in
theorem Cost_yes (b : Nat) (x y : Nat) (C : Nat → Nat → Int) (w : World) (hx : x < 6) (hy : y < 6) (hC : CAt w b 103 C) :
    Calls Try.prog 24 #[.pointer (some ⟨b, 0, none⟩), .int .i64 x, .int .i64 y] w fun e w' => e = .returned (.int .i64 (C x y)) ∧ w = w' := by
  have hc := hC.cell hx hy
  clear hC
  go_enter Try.func24, Try.ntmps24
  go_wp2_with (first | (go_at_call 18; refine (Node_yes _ _ (by omega) (by omega)).mono ?_; rintro e w' ⟨rfl, rfl⟩))
  go_ret
  exact ⟨rfl, rfl⟩

set_option maxHeartbeats 400000 in
theorem Cost_no (b : Nat) (x y : Int) (w : World) (h : ¬ (0 ≤ x ∧ x < 6 ∧ 0 ≤ y ∧ y < 6)) :
    Calls Try.prog 24 #[.pointer (some ⟨b, 0, none⟩), .int .i64 x, .int .i64 y] w fun e w' => e = .returned (.int .i64 0) ∧ w = w' := by
  by_cases hx : 0 ≤ x ∧ x < 6
  · have hy : ¬ (0 ≤ y ∧ y < 6) := by omega
    obtain ⟨hx0, hx1⟩ := hx
    have HY := Lib.hid hy; clear hy h
    go_enter Try.func24, Try.ntmps24
    go_wp2_with fail
    refine (Node_yes _ _ hx0 hx1).mono ?_; rintro e w' ⟨rfl, rfl⟩
    go_wp2_with fail
    refine (Node_no _ _ HY.out).mono ?_; rintro e w' ⟨rfl, rfl⟩
    go_wp2
    go_ret
    exact ⟨rfl, rfl⟩
  · have HX := Lib.hid hx; clear hx h
    go_enter Try.func24, Try.ntmps24
    go_wp2_with fail
    refine (Node_no _ _ HX.out).mono ?_; rintro e w' ⟨rfl, rfl⟩
    go_wp2
    go_ret
    exact ⟨rfl, rfl⟩

/-- Both ways of a link. -/
def setC (C : Nat → Nat → Int) (a b : Nat) (v : Int) : Nat → Nat → Int := updC (updC C a b v) b a v

def SetPost (b : Nat) (t : TypeId) (C : Nat → Nat → Int) (w : World) (e : Ending) (w' : World) : Prop := e = .returned (.int .i64 0) ∧ CAt w' b t C ∧ Fr (OneB b) w w'

set_option maxHeartbeats 400000 in
theorem Set_ok (b x y : Nat) (v : Int) (C : Nat → Nat → Int) (w : World) (hx : x < 6) (hy : y < 6) (hxy : x ≠ y) (h0 : 0 ≤ v) (h1 : v ≤ 15) (hC : CAt w b 103 C) :
    Calls Try.prog 27 #[.pointer (some ⟨b, 0, none⟩), .int .i64 x, .int .i64 y, .int .i64 v] w (SetPost b 103 (setC C x y v) w) := by
  have c1 := hC.cell hx hy
  have c2 := hC.cell hy hx
  have f1 := World.rowIs.frozen hC (x * 6 + y)
  have f2 := World.rowIs.frozen hC (y * 6 + x)
  have HC := Lib.hid hC; clear hC
  have hb : ((x : Int) == (y : Int)) = false := by simp; omega
  go_enter Try.func27, Try.ntmps27
  go_wp2_with (first | (go_at_call 18; refine (Node_yes _ _ (by omega) (by omega)).mono ?_; rintro e w' ⟨rfl, rfl⟩))
  go_region
  go_wp2
  go_ret
  exact ⟨rfl, World.rowIs.drew ((HC.out.set hy v).set hx v), (((Fr.refl _ _).set1 _ _).set1 _ _).drew⟩

set_option maxHeartbeats 1000000 in
theorem Set_no (b : Nat) (x y v : Int) (w : World) (h : ¬ (0 ≤ x ∧ x < 6 ∧ 0 ≤ y ∧ y < 6 ∧ x ≠ y ∧ 0 ≤ v ∧ v ≤ 15)) :
    Calls Try.prog 27 #[.pointer (some ⟨b, 0, none⟩), .int .i64 x, .int .i64 y, .int .i64 v] w fun e w' => e = .returned (.int .i64 1) ∧ w = w' := by
  by_cases hx : 0 ≤ x ∧ x < 6
  · obtain ⟨hx0, hx1⟩ := hx
    by_cases hy : 0 ≤ y ∧ y < 6
    · obtain ⟨hy0, hy1⟩ := hy
      by_cases hxy : x = y
      · subst hxy
        clear h
        go_enter Try.func27, Try.ntmps27
        go_wp2_with (first | (go_at_call 18; refine (Node_yes _ _ (by omega) (by omega)).mono ?_; rintro e w' ⟨rfl, rfl⟩))
        go_ret
        exact ⟨rfl, rfl⟩
      · have hb : (x == y) = false := by simp; omega
        by_cases hv : v < 0
        · clear h hxy
          go_enter Try.func27, Try.ntmps27
          go_wp2_with (first | (go_at_call 18; refine (Node_yes _ _ (by omega) (by omega)).mono ?_; rintro e w' ⟨rfl, rfl⟩))
          go_ret
          exact ⟨rfl, rfl⟩
        · have hv1 : 15 < v := by omega
          have hv0 : 0 ≤ v := by omega
          clear h hxy hv
          go_enter Try.func27, Try.ntmps27
          go_wp2_with (first | (go_at_call 18; refine (Node_yes _ _ (by omega) (by omega)).mono ?_; rintro e w' ⟨rfl, rfl⟩))
          go_ret
          exact ⟨rfl, rfl⟩
    · have HY := Lib.hid hy; clear hy h
      go_enter Try.func27, Try.ntmps27
      go_wp2_with fail
      refine (Node_yes _ _ hx0 hx1).mono ?_; rintro e w' ⟨rfl, rfl⟩
      go_wp2_with fail
      refine (Node_no _ _ HY.out).mono ?_; rintro e w' ⟨rfl, rfl⟩
      go_wp2
      go_ret
      exact ⟨rfl, rfl⟩
  · have HX := Lib.hid hx; clear hx h
    go_enter Try.func27, Try.ntmps27
    go_wp2_with fail
    refine (Node_no _ _ HX.out).mono ?_; rintro e w' ⟨rfl, rfl⟩
    go_wp2
    go_ret
    exact ⟨rfl, rfl⟩

def NewLPost (w : World) (e : Ending) (w' : World) : Prop := e = .returned (.pointer (some ⟨w.heap.size, 0, none⟩)) ∧ CAt w' w.heap.size 103 (fun _ _ => 0) ∧ Fr NoB w w'

set_option maxHeartbeats 400000 in
theorem NewL (w : World) : Calls Try.prog 58 #[] w (NewLPost w) := by
  go_enter Try.func58, Try.ntmps58
  go_wp2
  go_ret
  exact ⟨rfl, rowIs_new w 36 (.int .i64 0) 103, (Fr.refl _ _).alloc _⟩

end Go.Proofs.Ytdpgbgapelgomaa
