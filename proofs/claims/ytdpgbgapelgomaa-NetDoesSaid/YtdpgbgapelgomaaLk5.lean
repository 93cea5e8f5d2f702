/- Walks: SameInts; Map.Set; what a slice of integers reads. -/
import Derived.Test.YtdpgbgapelgomaaLk4
namespace Go.Proofs.Ytdpgbgapelgomaa
open Go.RowKit Go.Deep

theorem Rd.row {w : World} {g : Nat} {t : TypeId} {n : Nat} {f : Nat → Int} (h : w.rowIs g t n (I f)) : Rd w (some ⟨g, 0, none⟩) n f := fun k hk => ⟨g, 0, rfl, by rw [Nat.zero_add]; exact rowI_cell h hk⟩
theorem Rd.keep {S : Nat → Prop} {w w' : World} {a : Option Addr} {n : Nat} {X : Nat → Int} (h : Rd w a n X) (hf : Fr S w w') (hS : ∀ p, a = some p → ¬ S p.block) : Rd w' a n X := by
  intro k hk
  obtain ⟨b, off, h1, h2⟩ := h k hk
  refine ⟨b, off, h1, ?_⟩
  rw [World.cell?_of_block (w := w) (hf.block b (World.block_lt_of_cell? w _ h2) (hS ⟨b, off, none⟩ h1))]
  exact h2
theorem Rd.drewN {w : World} {a : Option Addr} {n : Nat} {X : Nat → Int} (h : Rd w a n X) (m : Nat) : Rd (w.drewN m) a n X := h
theorem Sl.rd {w : World} {base : Nat} {v : Value} {xs : List Int} (h : Sl w base v xs) : ∃ a cap, v = .slice a xs.length cap ∧ Rd w a xs.length (fun i => xs.getD i 0) ∧ ∀ p, a = some p → base ≤ p.block := by
  rcases h.shape with ⟨h1, h2⟩ | ⟨g, cap, h1, h2, _, h3⟩
  · subst h2
    exact ⟨none, 0, h1, fun k hk => absurd hk (by simp), fun p hp => by cases hp⟩
  · exact ⟨some ⟨g, 0, none⟩, cap, h1, fun i hi => ⟨g, 0, rfl, by rw [Nat.zero_add]; exact h3 i hi⟩, fun p hp => by cases hp; exact h2⟩

def SamePost (n m : Nat) (X Y : Nat → Int) (w : World) (e : Ending) (w' : World) : Prop := ∃ r : Bool, e = .returned (.bool r) ∧ (r = true ↔ n = m ∧ ∀ k, k < n → X k = Y k) ∧ ∃ j, w' = w.drewN j
def SameRel (n : Nat) (X Y : Nat → Int) (w : World) (i : Value) (wr : World) : Prop := ∃ k : Nat, k ≤ n ∧ i = .int .i64 k ∧ (∀ j, j < k → X j = Y j) ∧ ∃ j, wr = w.drewN j

set_option maxHeartbeats 1000000 in
theorem SameInts_any (a b : Option Addr) (n m c d : Nat) (X Y : Nat → Int) (w : World) (hn : n ≤ 2147483648) (hm : m ≤ 2147483648) (ha : Rd w a n X) (hb : Rd w b m Y) :
    Calls Try.prog 20 #[.slice a n c, .slice b m d] w (SamePost n m X Y w) := by
  have HA := Lib.hid ha; clear ha
  have HB := Lib.hid hb; clear hb
  by_cases hnm : n = m
  · subst hnm
    go_enter Try.func20, Try.ntmps20
    go_wp2
    go_loopw [5] (fun i wr => SameRel n X Y w i wr) (fun i _ => n - (intOf i).toNat)
    case atStart => exact ⟨0, by omega, rfl, fun j hj => by omega, 0, rfl⟩
    case round =>
      obtain ⟨k, hk, rfl, heq, jd, rfl⟩ := hrel
      have HE := Lib.hid heq; clear heq
      by_cases hkn : k < n
      · obtain ⟨b1, o1, rfl, c1⟩ := HA.out k hkn
        obtain ⟨b2, o2, rfl, c2⟩ := HB.out k hkn
        by_cases hx : X k = Y k
        · have hxb : (X k != Y k) = false := by simp [hx]
          have HX := Lib.hid hx; clear hx
          go_wp2
          go_quiet (fail)
          go_wp2
          go_roundw
          case rel => exact ⟨k + 1, by omega, by go_num, fun j hj => by
            by_cases e : j = k
            · rw [e]; exact HX.out
            · exact HE.out j (by omega), _, rfl⟩
          case measure => simp [intOf]; omega
        · have hxb : (X k != Y k) = true := by simp [hx]
          have HX := Lib.hid hx; clear hx
          go_wp2
          go_quiet (fail)
          go_wp2
          go_ret
          exact ⟨false, rfl, ⟨fun h => (by cases h), fun h => absurd (h.2 k hkn) HX.out⟩, _, World.drewN_drewN _ _ _⟩
      · go_wp2
        go_ret
        exact ⟨true, rfl, ⟨fun _ => ⟨rfl, fun j hj => HE.out j (by omega)⟩, fun _ => rfl⟩, _, rfl⟩
  · have hb1 : ((n : Int) != (m : Int)) = true := by simp; omega
    have HN := Lib.hid hnm; clear hnm
    go_enter Try.func20, Try.ntmps20
    go_wp2
    go_ret
    exact ⟨false, rfl, ⟨fun h => (by cases h), fun h => absurd h.1 HN.out⟩, 0, rfl⟩

set_option maxHeartbeats 400000 in
theorem MSet_ok (b x y : Nat) (v : Int) (C : Nat → Nat → Int) (w : World) (hx : x < 6) (hy : y < 6) (hxy : x ≠ y) (h0 : 0 ≤ v) (h1 : v ≤ 15) (hC : CAt w b 100 C) :
    Calls Try.prog 59 #[.pointer (some ⟨b, 0, none⟩), .int .i64 x, .int .i64 y, .int .i64 v] w (SetPost b 100 (setC C x y v) w) := by
  have c1 := hC.cell hx hy
  have c2 := hC.cell hy hx
  have f1 := World.rowIs.frozen hC (x * 6 + y)
  have f2 := World.rowIs.frozen hC (y * 6 + x)
  have HC := Lib.hid hC; clear hC
  have hb : ((x : Int) == (y : Int)) = false := by simp; omega
  go_enter Try.func59, Try.ntmps59
  go_wp2_with (first | (go_at_call 19; refine (RNode_yes _ _ (by omega) (by omega)).mono ?_; rintro e w' ⟨rfl, rfl⟩))
  go_ret
  exact ⟨rfl, ((HC.out.set hy v).set hx v), (((Fr.refl _ _).set1 _ _).set1 _ _)⟩

set_option maxHeartbeats 1000000 in
theorem MSet_no (b : Nat) (x y v : Int) (w : World) (h : ¬ (0 ≤ x ∧ x < 6 ∧ 0 ≤ y ∧ y < 6 ∧ x ≠ y ∧ 0 ≤ v ∧ v ≤ 15)) :
    Calls Try.prog 59 #[.pointer (some ⟨b, 0, none⟩), .int .i64 x, .int .i64 y, .int .i64 v] w fun e w' => e = .returned (.int .i64 1) ∧ w = w' := by
  by_cases hx : 0 ≤ x ∧ x < 6
  · obtain ⟨hx0, hx1⟩ := hx
    by_cases hy : 0 ≤ y ∧ y < 6
    · obtain ⟨hy0, hy1⟩ := hy
      by_cases hxy : x = y
      · subst hxy
        clear h
        go_enter Try.func59, Try.ntmps59
        go_wp2_with (first | (go_at_call 19; refine (RNode_yes _ _ (by omega) (by omega)).mono ?_; rintro e w' ⟨rfl, rfl⟩))
        go_ret
        exact ⟨rfl, rfl⟩
      · have hb : (x == y) = false := by simp; omega
        by_cases hv : v < 0
        · clear h hxy
          go_enter Try.func59, Try.ntmps59
          go_wp2_with (first | (go_at_call 19; refine (RNode_yes _ _ (by omega) (by omega)).mono ?_; rintro e w' ⟨rfl, rfl⟩))
          go_ret
          exact ⟨rfl, rfl⟩
        · have hv1 : 15 < v := by omega
          have hv0 : 0 ≤ v := by omega
          clear h hxy hv
          go_enter Try.func59, Try.ntmps59
          go_wp2_with (first | (go_at_call 19; refine (RNode_yes _ _ (by omega) (by omega)).mono ?_; rintro e w' ⟨rfl, rfl⟩))
          go_ret
          exact ⟨rfl, rfl⟩
    · have HY := Lib.hid hy; clear hy h
      go_enter Try.func59, Try.ntmps59
      go_wp2_with fail
      refine (RNode_yes _ _ hx0 hx1).mono ?_; rintro e w' ⟨rfl, rfl⟩
      go_wp2_with fail
      refine (RNode_no _ _ HY.out).mono ?_; rintro e w' ⟨rfl, rfl⟩
      go_wp2
      go_ret
      exact ⟨rfl, rfl⟩
  · have HX := Lib.hid hx; clear hx h
    go_enter Try.func59, Try.ntmps59
    go_wp2_with fail
    refine (RNode_no _ _ HX.out).mono ?_; rintro e w' ⟨rfl, rfl⟩
    go_wp2
    go_ret
    exact ⟨rfl, rfl⟩
end Go.Proofs.Ytdpgbgapelgomaa
