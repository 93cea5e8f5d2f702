/- A node's state and what its operations do to it, without any program: the program's way of choosing and the reference's come to the same; what they keep. -/
import Derived.Test.YtffoilacaffdgaaGreatDoorB1
import Derived.StillTailTactics
import Derived.IntWalk
import Derived.Deep.AppendLies
import Derived.Deep.RegionHeld3
import Derived.Deep.MidRow
set_option maxRecDepth 100000
set_option maxHeartbeats 8000000
namespace Go.Proofs.YtffoilacaffdgaaGreatDoor.Nd
def betB (a b c d : Int) : Bool := decide (c < a ∨ (a = c ∧ b < d))
theorem betB_iff {a b c d : Int} : betB a b c d = true ↔ c < a ∨ (a = c ∧ b < d) := by simp [betB]
theorem betB_no {a b c d : Int} : betB a b c d = false ↔ ¬ (c < a ∨ (a = c ∧ b < d)) := by simp only [betB, decide_eq_false_iff_not]
def up (f : Nat → Int) (i : Nat) (v : Int) : Nat → Int := fun j => if j = i then v else f j
def up2 (f : Nat → Nat → Int) (i k : Nat) (v : Int) : Nat → Nat → Int := fun a b => if a = i ∧ b = k then v else f a b
@[simp] theorem up_same (f : Nat → Int) (i : Nat) (v : Int) : up f i v i = v := by simp [up]
theorem up_other (f : Nat → Int) (i j : Nat) (v : Int) (h : j ≠ i) : up f i v j = f j := by simp [up, h]
structure NS where
 me : Nat
 cost : Nat → Int
 hS : Nat → Nat → Int
 hD : Nat → Nat → Int
 wS : Nat → Int
 wD : Nat → Int
 wH : Nat → Int
 bS : Nat → Int
 bD : Nat → Int
def flat (s : NS) (j : Nat) : Int :=
 if j = 0 then (s.me : Int) else if j < 7 then s.cost (j - 1) else
 if j < 79 then (if (j - 7) % 2 = 0 then s.hS ((j - 7) / 12) ((j - 7) % 12 / 2) else s.hD ((j - 7) / 12) ((j - 7) % 12 / 2)) else
 if j < 97 then (if (j - 79) % 3 = 0 then s.wS ((j - 79) / 3) else if (j - 79) % 3 = 1 then s.wD ((j - 79) / 3) else s.wH ((j - 79) / 3)) else
 (if (j - 97) % 2 = 0 then s.bS ((j - 97) / 2) else s.bD ((j - 97) / 2))
theorem flat_me (s : NS) : flat s 0 = s.me := rfl
theorem flat_cost (s : NS) {k : Nat} (hk : k < 6) : flat s (1 + k) = s.cost k := by
 unfold flat
 rw [if_neg (by omega), if_pos (by omega), show 1 + k - 1 = k from by omega]
theorem flat_hS (s : NS) {i k : Nat} (hi : i < 6) (hk : k < 6) : flat s (7 + i * 12 + k * 2) = s.hS i k := by
 unfold flat
 rw [if_neg (by omega), if_neg (by omega), if_pos (by omega), if_pos (by omega), show (7 + i * 12 + k * 2 - 7) / 12 = i from by omega, show (7 + i * 12 + k * 2 - 7) % 12 / 2 = k from by omega]
theorem flat_hD (s : NS) {i k : Nat} (hi : i < 6) (hk : k < 6) : flat s (7 + i * 12 + k * 2 + 1) = s.hD i k := by
 unfold flat
 rw [if_neg (by omega), if_neg (by omega), if_pos (by omega), if_neg (by omega), show (7 + i * 12 + k * 2 + 1 - 7) / 12 = i from by omega, show (7 + i * 12 + k * 2 + 1 - 7) % 12 / 2 = k from by omega]
theorem flat_wS (s : NS) {k : Nat} (hk : k < 6) : flat s (79 + k * 3) = s.wS k := by
 unfold flat
 rw [if_neg (by omega), if_neg (by omega), if_neg (by omega), if_pos (by omega), if_pos (by omega), show (79 + k * 3 - 79) / 3 = k from by omega]
theorem flat_wD (s : NS) {k : Nat} (hk : k < 6) : flat s (79 + k * 3 + 1) = s.wD k := by
 unfold flat
 rw [if_neg (by omega), if_neg (by omega), if_neg (by omega), if_pos (by omega), if_neg (by omega), if_pos (by omega), show (79 + k * 3 + 1 - 79) / 3 = k from by omega]
theorem flat_wH (s : NS) {k : Nat} (hk : k < 6) : flat s (79 + k * 3 + 2) = s.wH k := by
 unfold flat
 rw [if_neg (by omega), if_neg (by omega), if_neg (by omega), if_pos (by omega), if_neg (by omega), if_neg (by omega), show (79 + k * 3 + 2 - 79) / 3 = k from by omega]
theorem flat_bS (s : NS) {k : Nat} (_hk : k < 6) : flat s (97 + k * 2) = s.bS k := by
 unfold flat
 rw [if_neg (by omega), if_neg (by omega), if_neg (by omega), if_neg (by omega), if_pos (by omega), show (97 + k * 2 - 97) / 2 = k from by omega]
theorem flat_bD (s : NS) {k : Nat} (_hk : k < 6) : flat s (97 + k * 2 + 1) = s.bD k := by
 unfold flat
 rw [if_neg (by omega), if_neg (by omega), if_neg (by omega), if_neg (by omega), if_neg (by omega), show (97 + k * 2 + 1 - 97) / 2 = k from by omega]
theorem set_cost (s : NS) {k : Nat} (hk : k < 6) (v : Int) (j : Nat) : flat { s with cost := up s.cost k v } j = if j = 1 + k then v else flat s j := by
 by_cases e : j = 1 + k
 ·subst e; rw [if_pos rfl, flat_cost _ hk]; exact up_same _ _ _
 rw [if_neg e]
 unfold flat
 by_cases h0 : j = 0
 ·simp [h0]
 by_cases h1 : j < 7
 ·simp only [if_neg h0, if_pos h1]
  exact up_other _ _ _ _ (by omega)
 simp only [if_neg h0, if_neg h1]
theorem set_hS (s : NS) {i k : Nat} (hi : i < 6) (hk : k < 6) (v : Int) (j : Nat) (hj : j < 109) : flat { s with hS := up2 s.hS i k v } j = if j = 7 + i * 12 + k * 2 then v else flat s j := by
 by_cases e : j = 7 + i * 12 + k * 2
 ·subst e; rw [if_pos rfl, flat_hS _ hi hk]; simp [up2]
 rw [if_neg e]
 unfold flat
 by_cases h0 : j = 0
 ·simp [h0]
 by_cases h1 : j < 7
 ·simp only [if_neg h0, if_pos h1]
 by_cases h2 : j < 79
 ·by_cases h3 : (j - 7) % 2 = 0
  ·simp only [if_neg h0, if_neg h1, if_pos h2, if_pos h3, up2]
   rw [if_neg (by omega)]
  simp only [if_neg h0, if_neg h1, if_pos h2, if_neg h3]
 simp only [if_neg h0, if_neg h1, if_neg h2]
theorem set_hD (s : NS) {i k : Nat} (hi : i < 6) (hk : k < 6) (v : Int) (j : Nat) (hj : j < 109) : flat { s with hD := up2 s.hD i k v } j = if j = 7 + i * 12 + k * 2 + 1 then v else flat s j := by
 by_cases e : j = 7 + i * 12 + k * 2 + 1
 ·subst e; rw [if_pos rfl, flat_hD _ hi hk]; simp [up2]
 rw [if_neg e]
 unfold flat
 by_cases h0 : j = 0
 ·simp [h0]
 by_cases h1 : j < 7
 ·simp only [if_neg h0, if_pos h1]
 by_cases h2 : j < 79
 ·by_cases h3 : (j - 7) % 2 = 0
  ·simp only [if_neg h0, if_neg h1, if_pos h2, if_pos h3]
  simp only [if_neg h0, if_neg h1, if_pos h2, if_neg h3, up2]
  rw [if_neg (by omega)]
 simp only [if_neg h0, if_neg h1, if_neg h2]
theorem set_wS (s : NS) {k : Nat} (hk : k < 6) (v : Int) (j : Nat) : flat { s with wS := up s.wS k v } j = if j = 79 + k * 3 then v else flat s j := by
 by_cases e : j = 79 + k * 3
 ·subst e; rw [if_pos rfl, flat_wS _ hk]; exact up_same _ _ _
 rw [if_neg e]
 unfold flat
 by_cases h0 : j = 0
 ·simp [h0]
 by_cases h1 : j < 7
 ·simp only [if_neg h0, if_pos h1]
 by_cases h2 : j < 79
 ·simp only [if_neg h0, if_neg h1, if_pos h2]
 by_cases h3 : j < 97
 ·by_cases h4 : (j - 79) % 3 = 0
  ·simp only [if_neg h0, if_neg h1, if_neg h2, if_pos h3, if_pos h4]
   exact up_other _ _ _ _ (by omega)
  simp only [if_neg h0, if_neg h1, if_neg h2, if_pos h3, if_neg h4]
 simp only [if_neg h0, if_neg h1, if_neg h2, if_neg h3]
theorem set_wD (s : NS) {k : Nat} (hk : k < 6) (v : Int) (j : Nat) : flat { s with wD := up s.wD k v } j = if j = 79 + k * 3 + 1 then v else flat s j := by
 by_cases e : j = 79 + k * 3 + 1
 ·subst e; rw [if_pos rfl, flat_wD _ hk]; exact up_same _ _ _
 rw [if_neg e]
 unfold flat
 by_cases h0 : j = 0
 ·simp [h0]
 by_cases h1 : j < 7
 ·simp only [if_neg h0, if_pos h1]
 by_cases h2 : j < 79
 ·simp only [if_neg h0, if_neg h1, if_pos h2]
 by_cases h3 : j < 97
 ·by_cases h4 : (j - 79) % 3 = 0
  ·simp only [if_neg h0, if_neg h1, if_neg h2, if_pos h3, if_pos h4]
  by_cases h5 : (j - 79) % 3 = 1
  ·simp only [if_neg h0, if_neg h1, if_neg h2, if_pos h3, if_neg h4, if_pos h5]
   exact up_other _ _ _ _ (by omega)
  simp only [if_neg h0, if_neg h1, if_neg h2, if_pos h3, if_neg h4, if_neg h5]
 simp only [if_neg h0, if_neg h1, if_neg h2, if_neg h3]
theorem set_wH (s : NS) {k : Nat} (hk : k < 6) (v : Int) (j : Nat) : flat { s with wH := up s.wH k v } j = if j = 79 + k * 3 + 2 then v else flat s j := by
 by_cases e : j = 79 + k * 3 + 2
 ·subst e; rw [if_pos rfl, flat_wH _ hk]; exact up_same _ _ _
 rw [if_neg e]
 unfold flat
 by_cases h0 : j = 0
 ·simp [h0]
 by_cases h1 : j < 7
 ·simp only [if_neg h0, if_pos h1]
 by_cases h2 : j < 79
 ·simp only [if_neg h0, if_neg h1, if_pos h2]
 by_cases h3 : j < 97
 ·by_cases h4 : (j - 79) % 3 = 0
  ·simp only [if_neg h0, if_neg h1, if_neg h2, if_pos h3, if_pos h4]
  by_cases h5 : (j - 79) % 3 = 1
  ·simp only [if_neg h0, if_neg h1, if_neg h2, if_pos h3, if_neg h4, if_pos h5]
  simp only [if_neg h0, if_neg h1, if_neg h2, if_pos h3, if_neg h4, if_neg h5]
  exact up_other _ _ _ _ (by omega)
 simp only [if_neg h0, if_neg h1, if_neg h2, if_neg h3]
theorem set_bS (s : NS) {k : Nat} (hk : k < 6) (v : Int) (j : Nat) : flat { s with bS := up s.bS k v } j = if j = 97 + k * 2 then v else flat s j := by
 by_cases e : j = 97 + k * 2
 ·subst e; rw [if_pos rfl, flat_bS _ hk]; exact up_same _ _ _
 rw [if_neg e]
 unfold flat
 by_cases h0 : j = 0
 ·simp [h0]
 by_cases h1 : j < 7
 ·simp only [if_neg h0, if_pos h1]
 by_cases h2 : j < 79
 ·simp only [if_neg h0, if_neg h1, if_pos h2]
 by_cases h3 : j < 97
 ·simp only [if_neg h0, if_neg h1, if_neg h2, if_pos h3]
 by_cases h4 : (j - 97) % 2 = 0
 ·simp only [if_neg h0, if_neg h1, if_neg h2, if_neg h3, if_pos h4]
  exact up_other _ _ _ _ (by omega)
 simp only [if_neg h0, if_neg h1, if_neg h2, if_neg h3, if_neg h4]
theorem set_bD (s : NS) {k : Nat} (hk : k < 6) (v : Int) (j : Nat) : flat { s with bD := up s.bD k v } j = if j = 97 + k * 2 + 1 then v else flat s j := by
 by_cases e : j = 97 + k * 2 + 1
 ·subst e; rw [if_pos rfl, flat_bD _ hk]; exact up_same _ _ _
 rw [if_neg e]
 unfold flat
 by_cases h0 : j = 0
 ·simp [h0]
 by_cases h1 : j < 7
 ·simp only [if_neg h0, if_pos h1]
 by_cases h2 : j < 79
 ·simp only [if_neg h0, if_neg h1, if_pos h2]
 by_cases h3 : j < 97
 ·simp only [if_neg h0, if_neg h1, if_neg h2, if_pos h3]
 by_cases h4 : (j - 97) % 2 = 0
 ·simp only [if_neg h0, if_neg h1, if_neg h2, if_neg h3, if_pos h4]
 simp only [if_neg h0, if_neg h1, if_neg h2, if_neg h3, if_neg h4]
 exact up_other _ _ _ _ (by omega)
def may (s : NS) (who tt : Nat) : Bool := decide (0 < s.cost who ∧ s.hD who tt + s.cost who < 200) && betB (s.hS who tt) (s.hD who tt) (s.bS tt) (s.bD tt)
structure Way where
 seq : Int
 dist : Int
 hop : Int
def key (s : NS) (tt k : Nat) : Way := ⟨s.hS k tt, s.hD k tt + s.cost k, k⟩
def none (s : NS) (tt : Nat) : Way := ⟨s.bS tt, 200, -1⟩
def choose (s : NS) (tt : Nat) : Nat → Way
 | 0 => none s tt
 | k + 1 => if may s k tt = true ∧ ((choose s tt k).hop = -1 ∨ betB (s.hS k tt) (s.hD k tt + s.cost k) (choose s tt k).seq (choose s tt k).dist = true) then key s tt k else choose s tt k
def chooseR (s : NS) (tt : Nat) : Nat → Way
 | 0 => none s tt
 | m + 1 => if may s (5 - m) tt = true ∧ ((chooseR s tt m).hop = -1 ∨ betB (chooseR s tt m).seq (chooseR s tt m).dist (s.hS (5 - m) tt) (s.hD (5 - m) tt + s.cost (5 - m)) = false) then key s tt (5 - m) else chooseR s tt m
structure Top (s : NS) (tt lo hi t : Nat) : Prop where
 ge : lo ≤ t
 lt : t < hi
 may : may s t tt = true
 best : ∀ j, lo ≤ j → j < hi → Nd.may s j tt = true → betB (s.hS j tt) (s.hD j tt + s.cost j) (s.hS t tt) (s.hD t tt + s.cost t) = false
 first : ∀ j, lo ≤ j → j < t → Nd.may s j tt = true → betB (s.hS t tt) (s.hD t tt + s.cost t) (s.hS j tt) (s.hD j tt + s.cost j) = true
theorem Top.uniq {s : NS} {tt lo hi t u : Nat} (h : Top s tt lo hi t) (k : Top s tt lo hi u) : t = u := by
 rcases Nat.lt_trichotomy t u with e | e | e
 ·have h1 := k.first t h.ge e h.may
  have h2 := h.best u k.ge k.lt k.may
  rw [h1] at h2; cases h2
 ·exact e
 have h1 := h.first u k.ge e k.may
 have h2 := k.best t h.ge h.lt h.may
 rw [h1] at h2; cases h2
theorem choose_spec (s : NS) (tt : Nat) : ∀ k, (choose s tt k = none s tt ∧ ∀ j, j < k → may s j tt = false) ∨ ∃ t, Top s tt 0 k t ∧ choose s tt k = key s tt t
 | 0 => .inl ⟨rfl, fun j hj => by omega⟩
 | k + 1 => by
  rcases choose_spec s tt k with ⟨h1, h2⟩ | ⟨t, ht, h1⟩
  ·cases hm : may s k tt
   ·refine .inl ⟨?_, fun j hj => ?_⟩
    ·rw [choose, if_neg (by simp [hm])]; exact h1
    by_cases e : j = k
    ·rw [e]; exact hm
    exact h2 j (by omega)
   refine .inr ⟨k, ⟨by omega, by omega, hm, fun j _ hj hj2 => ?_, fun j _ hj hj2 => ?_⟩, ?_⟩
   ·by_cases e : j = k
    ·subst e; rw [betB_no]; omega
    rw [h2 j (by omega)] at hj2; cases hj2
   ·rw [h2 j hj] at hj2; cases hj2
   rw [choose, if_pos ⟨hm, .inl (by rw [h1]; rfl)⟩]
  by_cases hc : may s k tt = true ∧ betB (s.hS k tt) (s.hD k tt + s.cost k) (s.hS t tt) (s.hD t tt + s.cost t) = true
  ·refine .inr ⟨k, ⟨by omega, by omega, hc.1, fun j h0 hj hj2 => ?_, fun j h0 hj hj2 => ?_⟩, ?_⟩
   ·by_cases e : j = k
    ·subst e; rw [betB_no]; omega
    have h3 := ht.best j h0 (by omega) hj2
    have h4 := hc.2
    rw [betB_no] at h3 ⊢; rw [betB_iff] at h4
    omega
   ·have h3 := ht.best j h0 hj hj2
    have h4 := hc.2
    rw [betB_no] at h3; rw [betB_iff] at h4 ⊢
    omega
   rw [choose, if_pos ⟨hc.1, .inr (by rw [h1]; exact hc.2)⟩]
  refine .inr ⟨t, ⟨ht.ge, by have := ht.lt; omega, ht.may, fun j h0 hj hj2 => ?_, ht.first⟩, ?_⟩
  ·by_cases e : j = k
   ·subst e;cases hb : betB (s.hS j tt) (s.hD j tt + s.cost j) (s.hS t tt) (s.hD t tt + s.cost t)
    ·rfl
    exact absurd ⟨hj2, hb⟩ hc
   exact ht.best j h0 (by omega) hj2
  rw [choose, if_neg]
  ·exact h1
  rintro ⟨a, b⟩
  rcases b with b | b
  ·rw [h1] at b; simp only [key] at b; omega
  rw [h1] at b; exact hc ⟨a, b⟩
theorem chooseR_spec (s : NS) (tt : Nat) : ∀ m, m ≤ 6 → (chooseR s tt m = none s tt ∧ ∀ j, 6 - m ≤ j → j < 6 → may s j tt = false) ∨ ∃ t, Top s tt (6 - m) 6 t ∧ chooseR s tt m = key s tt t
 | 0, _ => .inl ⟨rfl, fun j hj h => by omega⟩
 | m + 1, hm6 => by
  have e5 : 6 - (m + 1) = 5 - m := by omega
  rw [e5];rcases chooseR_spec s tt m (by omega) with ⟨h1, h2⟩ | ⟨t, ht, h1⟩
  ·cases hm : may s (5 - m) tt
   ·refine .inl ⟨?_, fun j hj hj6 => ?_⟩
    ·rw [chooseR, if_neg (by simp [hm])]; exact h1
    by_cases e : j = 5 - m
    ·rw [e]; exact hm
    exact h2 j (by omega) hj6
   refine .inr ⟨5 - m, ⟨by omega, by omega, hm, fun j h0 hj hj2 => ?_, fun j h0 hj hj2 => by omega⟩, ?_⟩
   ·by_cases e : j = 5 - m
    ·subst e; rw [betB_no]; omega
    rw [h2 j (by omega) hj] at hj2; cases hj2
   rw [chooseR, if_pos ⟨hm, .inl (by rw [h1]; rfl)⟩]
  by_cases hc : may s (5 - m) tt = true ∧ betB (s.hS t tt) (s.hD t tt + s.cost t) (s.hS (5 - m) tt) (s.hD (5 - m) tt + s.cost (5 - m)) = false
  ·refine .inr ⟨5 - m, ⟨by omega, by omega, hc.1, fun j h0 hj hj2 => ?_, fun j h0 hj hj2 => by omega⟩, ?_⟩
   ·by_cases e : j = 5 - m
    ·subst e; rw [betB_no]; omega
    have h3 := ht.best j (by omega) hj hj2
    have h4 := hc.2
    rw [betB_no] at h3 h4 ⊢
    omega
   rw [chooseR, if_pos ⟨hc.1, .inr (by rw [h1]; exact hc.2)⟩]
  refine .inr ⟨t, ⟨by have := ht.ge; omega, ht.lt, ht.may, fun j h0 hj hj2 => ?_, fun j h0 hj hj2 => ?_⟩, ?_⟩
  ·by_cases e : j = 5 - m
   ·subst e
    have hb : betB (s.hS t tt) (s.hD t tt + s.cost t) (s.hS (5 - m) tt) (s.hD (5 - m) tt + s.cost (5 - m)) = true := by
     cases hb : betB (s.hS t tt) (s.hD t tt + s.cost t) (s.hS (5 - m) tt) (s.hD (5 - m) tt + s.cost (5 - m))
     ·exact absurd ⟨hj2, hb⟩ hc
     rfl
    rw [betB_iff] at hb;rw [betB_no]
    omega
   exact ht.best j (by omega) hj hj2
  ·by_cases e : j = 5 - m
   ·subst e;cases hb : betB (s.hS t tt) (s.hD t tt + s.cost t) (s.hS (5 - m) tt) (s.hD (5 - m) tt + s.cost (5 - m))
    ·exact absurd ⟨hj2, hb⟩ hc
    rfl
   exact ht.first j (by omega) hj hj2
  rw [chooseR, if_neg]
  ·exact h1
  rintro ⟨a, b⟩
  rcases b with b | b
  ·rw [h1] at b; simp only [key] at b; omega
  rw [h1] at b; exact hc ⟨a, b⟩
theorem chooseR_eq (s : NS) (tt : Nat) : chooseR s tt 6 = choose s tt 6 := by
 rcases choose_spec s tt 6 with ⟨h1, h2⟩ | ⟨t, ht, h1⟩
 ·rcases chooseR_spec s tt 6 (by omega) with ⟨k1, k2⟩ | ⟨u, hu, k1⟩
  ·rw [h1, k1]
  have := h2 u hu.lt
  rw [hu.may] at this; cases this
 rcases chooseR_spec s tt 6 (by omega) with ⟨k1, k2⟩ | ⟨u, hu, k1⟩
 ·have := k2 t (by omega) ht.lt
  rw [ht.may] at this; cases this
 rw [h1, k1, Top.uniq ht hu]
def lay (s : NS) (tt : Nat) (w : Way) : NS :=
 { s with wS := up s.wS tt w.seq, wD := up s.wD tt w.dist, wH := up s.wH tt w.hop, bS := if w.hop ≠ -1 ∧ betB w.seq w.dist (s.bS tt) (s.bD tt) = true then up s.bS tt w.seq else s.bS, bD := if w.hop ≠ -1 ∧ betB w.seq w.dist (s.bS tt) (s.bD tt) = true then up s.bD tt w.dist else s.bD }
theorem lay_keep (s : NS) (dst : Nat) (w : Way) (h : ¬ (w.hop ≠ -1 ∧ betB w.seq w.dist (s.bS dst) (s.bD dst) = true)) : lay s dst w = { s with wS := up s.wS dst w.seq, wD := up s.wD dst w.dist, wH := up s.wH dst w.hop } := by
 simp only [lay, if_neg h]
theorem lay_best (s : NS) (dst : Nat) (w : Way) (h : w.hop ≠ -1 ∧ betB w.seq w.dist (s.bS dst) (s.bD dst) = true) : lay s dst w = { s with wS := up s.wS dst w.seq, wD := up s.wD dst w.dist, wH := up s.wH dst w.hop, bS := up s.bS dst w.seq, bD := up s.bD dst w.dist } := by
 simp only [lay, if_pos h]
def pick (s : NS) (tt : Nat) : NS := if tt = s.me then s else lay s tt (choose s tt 6)
def all (s : NS) : Nat → NS
 | 0 => s
 | k + 1 => pick (all s k) k
def forgetK (s : NS) (who k : Nat) : NS := { s with hS := fun a b => if a = who ∧ b < k then 0 else s.hS a b, hD := fun a b => if a = who ∧ b < k then 200 else s.hD a b }
theorem forgetK_zero (s : NS) (who : Nat) : forgetK s who 0 = s := by simp [forgetK]
theorem forgetK_succ (s : NS) (who k : Nat) : forgetK s who (k + 1) = { forgetK s who k with hS := up2 (forgetK s who k).hS who k 0, hD := up2 (forgetK s who k).hD who k 200 } := by
 have e1 : (forgetK s who (k + 1)).hS = up2 (forgetK s who k).hS who k 0 := by
  funext a b
  simp only [forgetK, up2]
  by_cases h : a = who ∧ b = k
  ·rw [if_pos (by omega), if_pos h]
  rw [if_neg h];by_cases h2 : a = who ∧ b < k
  ·rw [if_pos (by omega), if_pos h2]
  rw [if_neg (by omega), if_neg h2]
 have e2 : (forgetK s who (k + 1)).hD = up2 (forgetK s who k).hD who k 200 := by
  funext a b
  simp only [forgetK, up2]
  by_cases h : a = who ∧ b = k
  ·rw [if_pos (by omega), if_pos h]
  rw [if_neg h];by_cases h2 : a = who ∧ b < k
  ·rw [if_pos (by omega), if_pos h2]
  rw [if_neg (by omega), if_neg h2]
 rw [← e1, ← e2]
 rfl
def forget (s : NS) (who : Nat) : NS := forgetK s who 6
def link (s : NS) (who : Nat) (c : Int) : NS :=
 let s1 : NS := { s with cost := up s.cost who c }
 all (if c = 0 then forget s1 who else s1) 6
def hear (s : NS) (src tt : Nat) (q d : Int) : NS := pick { s with hS := up2 s.hS src tt q, hD := up2 s.hD src tt d } tt
def own (s : NS) : NS := { s with wD := up s.wD s.me 0, wH := up s.wH s.me s.me, bS := up s.bS s.me (s.wS s.me), bD := up s.bD s.me 0 }
def tick (s : NS) : NS := own { s with wS := up s.wS s.me (s.wS s.me + 1) }
structure Ok (s : NS) : Prop where
 me : s.me < 6
 cost : ∀ k, k < 6 → 0 ≤ s.cost k ∧ s.cost k ≤ 15
 hS : ∀ i k, i < 6 → k < 6 → 0 ≤ s.hS i k
 hD : ∀ i k, i < 6 → k < 6 → 0 ≤ s.hD i k ∧ s.hD i k ≤ 200
theorem choose_hit (s : NS) (dst k : Nat) (h : may s k dst = true ∧ ((choose s dst k).hop = -1 ∨ betB (s.hS k dst) (s.hD k dst + s.cost k) (choose s dst k).seq (choose s dst k).dist = true)) : choose s dst (k + 1) = key s dst k := by rw [choose, if_pos h]
theorem choose_miss (s : NS) (dst k : Nat) (h : ¬ (may s k dst = true ∧ ((choose s dst k).hop = -1 ∨ betB (s.hS k dst) (s.hD k dst + s.cost k) (choose s dst k).seq (choose s dst k).dist = true))) : choose s dst (k + 1) = choose s dst k := by rw [choose, if_neg h]
def newK (me k : Nat) : NS :=
 { me := me, cost := fun _ => 0, hS := fun _ _ => 0, hD := fun a c => if a < k ∧ c < 6 then 200 else 0, wS := fun _ => 0, wD := fun j => if j < k then 200 else 0, wH := fun j => if j < k then -1 else 0, bS := fun _ => 0, bD := fun j => if j < k then 200 else 0 }
def newW (me k : Nat) : NS := { newK me k with wS := up (newK me k).wS k 0, wD := up (newK me k).wD k 200, wH := up (newK me k).wH k (-1), bS := up (newK me k).bS k 0, bD := up (newK me k).bD k 200 }
theorem newK_succ (me k : Nat) : newK me (k + 1) = forgetK (newW me k) k 6 := by
 have e1 : (newK me (k + 1)).hS = (forgetK (newW me k) k 6).hS := by funext a c; simp [newK, newW, forgetK]
 have e2 : (newK me (k + 1)).hD = (forgetK (newW me k) k 6).hD := by
  funext a c
  simp only [newK, newW, forgetK]
  by_cases h1 : a = k ∧ c < 6
  ·rw [if_pos h1, if_pos (by omega)]
  rw [if_neg h1];by_cases h2 : a < k ∧ c < 6
  ·rw [if_pos h2, if_pos (by omega)]
  rw [if_neg h2, if_neg (by omega)]
 have e3 : (newK me (k + 1)).wS = (forgetK (newW me k) k 6).wS := by funext a; simp [newK, newW, forgetK, up]
 have e4 : (newK me (k + 1)).wD = (forgetK (newW me k) k 6).wD := by
  funext a; simp only [newK, newW, forgetK, up]
  by_cases h : a = k
  ·rw [if_pos h, if_pos (by omega)]
  rw [if_neg h];by_cases h2 : a < k
  ·rw [if_pos h2, if_pos (by omega)]
  rw [if_neg h2, if_neg (by omega)]
 have e5 : (newK me (k + 1)).wH = (forgetK (newW me k) k 6).wH := by
  funext a; simp only [newK, newW, forgetK, up]
  by_cases h : a = k
  ·rw [if_pos h, if_pos (by omega)]
  rw [if_neg h];by_cases h2 : a < k
  ·rw [if_pos h2, if_pos (by omega)]
  rw [if_neg h2, if_neg (by omega)]
 have e6 : (newK me (k + 1)).bS = (forgetK (newW me k) k 6).bS := by funext a; simp [newK, newW, forgetK, up]
 have e7 : (newK me (k + 1)).bD = (forgetK (newW me k) k 6).bD := by
  funext a; simp only [newK, newW, forgetK, up]
  by_cases h : a = k
  ·rw [if_pos h, if_pos (by omega)]
  rw [if_neg h];by_cases h2 : a < k
  ·rw [if_pos h2, if_pos (by omega)]
  rw [if_neg h2, if_neg (by omega)]
 calc newK me (k + 1) = ⟨me, fun _ => 0, (newK me (k + 1)).hS, (newK me (k + 1)).hD, (newK me (k + 1)).wS, (newK me (k + 1)).wD, (newK me (k + 1)).wH, (newK me (k + 1)).bS, (newK me (k + 1)).bD⟩ := rfl
  _ = forgetK (newW me k) k 6 := by rw [e1, e2, e3, e4, e5, e6, e7]; rfl
def fresh (me : Nat) : NS := own (newK me 6)
def wayOf (s : NS) (k : Nat) : Way := ⟨s.wS k, s.wD k, s.wH k⟩
def noWay : Way := ⟨0, 200, -1⟩
def wayAt (s : NS) (k : Int) : Way := if 0 ≤ k ∧ k < 6 then wayOf s k.toNat else noWay
def linkBad (s : NS) (who c : Int) : Prop := ¬ (0 ≤ who ∧ who < 6) ∨ who = s.me ∨ c < 0 ∨ 15 < c
instance (s : NS) (who c : Int) : Decidable (linkBad s who c) := by unfold linkBad; infer_instance
def linkC (s : NS) (who c : Int) : NS × Int := if linkBad s who c then (s, 1) else (link s who.toNat c, 0)
def hearBad (s : NS) (f t q d : Int) : Prop := ¬ (0 ≤ f ∧ f < 6) ∨ ¬ (0 ≤ t ∧ t < 6) ∨ f = s.me ∨ q < 0 ∨ d < 0 ∨ 200 < d
instance (s : NS) (f t q d : Int) : Decidable (hearBad s f t q d) := by unfold hearBad; infer_instance
def hearC (s : NS) (f t q d : Int) : NS × Int := if hearBad s f t q d then (s, 1) else if s.cost f.toNat = 0 then (s, 6) else (hear s f.toNat t.toNat q d, 0)
def tellL (s : NS) (who : Int) (k : Nat) : List Int := (List.range k).flatMap fun (t : Nat) => [(s.me : Int), who, (t : Int), s.wS t, s.wD t]
theorem tellL_succ (s : NS) (who : Int) (k : Nat) : tellL s who (k + 1) = tellL s who k ++ [(s.me : Int), who, (k : Int), s.wS k, s.wD k] := by simp [tellL, List.range_succ]
theorem tellL_len (s : NS) (who : Int) : ∀ k, (tellL s who k).length = k * 5
 | 0 => rfl
 | k + 1 => by rw [tellL_succ, List.length_append, tellL_len s who k]; simp; omega
theorem Ok.lay {s : NS} (h : Ok s) (dst : Nat) (w : Way) : Ok (lay s dst w) := ⟨h.me, h.cost, h.hS, h.hD⟩
theorem Ok.pick {s : NS} (h : Ok s) (dst : Nat) : Ok (pick s dst) := by
 unfold Nd.pick; split
 ·exact h
 exact h.lay _ _
theorem Ok.all {s : NS} (h : Ok s) : ∀ k, Ok (all s k)
 | 0 => h
 | k + 1 => (Ok.all h k).pick k
theorem Ok.forget {s : NS} (h : Ok s) (who : Nat) : Ok (forget s who) where
 me := h.me
 cost := h.cost
 hS i k hi hk := by
  have := h.hS i k hi hk
  simp only [Nd.forget, forgetK]; split <;> omega
 hD i k hi hk := by
  have := h.hD i k hi hk
  simp only [Nd.forget, forgetK]; split <;> omega
theorem Ok.cost' {s : NS} (h : Ok s) (who : Nat) (c : Int) (h0 : 0 ≤ c) (h1 : c ≤ 15) : Ok { s with cost := up s.cost who c } where
 me := h.me
 cost k hk := by
  have := h.cost k hk
  simp only [up]; split <;> omega
 hS := h.hS
 hD := h.hD
theorem Ok.link {s : NS} (h : Ok s) (who : Nat) (c : Int) (h0 : 0 ≤ c) (h1 : c ≤ 15) : Ok (link s who c) := by
 unfold Nd.link
 dsimp only
 split
 ·exact Ok.all (Ok.forget (Ok.cost' h who c h0 h1) who) 6
 exact Ok.all (Ok.cost' h who c h0 h1) 6
theorem Ok.heard {s : NS} (h : Ok s) (src dst : Nat) (q d : Int) (hq : 0 ≤ q) (h0 : 0 ≤ d) (h1 : d ≤ 200) : Ok { s with hS := up2 s.hS src dst q, hD := up2 s.hD src dst d } where
 me := h.me
 cost := h.cost
 hS i k hi hk := by
  have := h.hS i k hi hk
  simp only [up2]; split <;> omega
 hD i k hi hk := by
  have := h.hD i k hi hk
  simp only [up2]; split <;> omega
theorem Ok.hear {s : NS} (h : Ok s) (src dst : Nat) (q d : Int) (hq : 0 ≤ q) (h0 : 0 ≤ d) (h1 : d ≤ 200) : Ok (hear s src dst q d) := (h.heard src dst q d hq h0 h1).pick dst
theorem Ok.own {s : NS} (h : Ok s) : Ok (own s) := ⟨h.me, h.cost, h.hS, h.hD⟩
theorem Ok.tick {s : NS} (h : Ok s) : Ok (tick s) := Ok.own (s := { s with wS := up s.wS s.me (s.wS s.me + 1) }) ⟨h.me, h.cost, h.hS, h.hD⟩
theorem Ok.fresh {me : Nat} (h : me < 6) : Ok (fresh me) := Ok.own (s := newK me 6) ⟨h, fun _ _ => by simp [newK], fun _ _ _ _ => by simp [newK], fun _ _ _ _ => by simp only [newK]; split <;> omega⟩
theorem Ok.linkC {s : NS} (h : Ok s) (who c : Int) : Ok (linkC s who c).1 := by
 unfold Nd.linkC; split
 ·exact h
 rename_i hb
 simp only [linkBad] at hb
 exact h.link _ c (by omega) (by omega)
theorem Ok.hearC {s : NS} (h : Ok s) (f t q d : Int) : Ok (hearC s f t q d).1 := by
 unfold Nd.hearC; split
 ·exact h
 rename_i hb
 simp only [hearBad] at hb
 split
 ·exact h
 exact h.hear _ _ q d (by omega) (by omega) (by omega)
end Go.Proofs.YtffoilacaffdgaaGreatDoor.Nd
namespace Go.Proofs.YtffoilacaffdgaaGreatDoor
open Go.RowKit Go.Deep
def NAt (w : World) (b : Nat) (t : TypeId) (s : Nd.NS) : Prop := w.rowIs b t 109 (I (Nd.flat s))
section
variable {w : World} {b : Nat} {t : TypeId} {s : Nd.NS} (h : NAt w b t s)
include h
theorem NAt.me : w.cell? ⟨b, 0, none⟩ = some (.int .i64 s.me) := rowI_cell h (i := 0) (by omega)
theorem NAt.cost {k : Nat} (hk : k < 6) : w.cell? ⟨b, 1 + k, none⟩ = some (.int .i64 (s.cost k)) := by
 have := rowI_cell h (i := 1 + k) (by omega); rw [Nd.flat_cost s hk] at this; exact this
theorem NAt.hS {i k : Nat} (hi : i < 6) (hk : k < 6) : w.cell? ⟨b, 7 + i * 12 + k * 2, none⟩ = some (.int .i64 (s.hS i k)) := by
 have := rowI_cell h (i := 7 + i * 12 + k * 2) (by omega); rw [Nd.flat_hS s hi hk] at this; exact this
theorem NAt.hD {i k : Nat} (hi : i < 6) (hk : k < 6) : w.cell? ⟨b, 7 + i * 12 + k * 2 + 1, none⟩ = some (.int .i64 (s.hD i k)) := by
 have := rowI_cell h (i := 7 + i * 12 + k * 2 + 1) (by omega); rw [Nd.flat_hD s hi hk] at this; exact this
theorem NAt.wS {k : Nat} (hk : k < 6) : w.cell? ⟨b, 79 + k * 3, none⟩ = some (.int .i64 (s.wS k)) := by
 have := rowI_cell h (i := 79 + k * 3) (by omega); rw [Nd.flat_wS s hk] at this; exact this
theorem NAt.wD {k : Nat} (hk : k < 6) : w.cell? ⟨b, 79 + k * 3 + 1, none⟩ = some (.int .i64 (s.wD k)) := by
 have := rowI_cell h (i := 79 + k * 3 + 1) (by omega); rw [Nd.flat_wD s hk] at this; exact this
theorem NAt.wH {k : Nat} (hk : k < 6) : w.cell? ⟨b, 79 + k * 3 + 2, none⟩ = some (.int .i64 (s.wH k)) := by
 have := rowI_cell h (i := 79 + k * 3 + 2) (by omega); rw [Nd.flat_wH s hk] at this; exact this
theorem NAt.bS {k : Nat} (hk : k < 6) : w.cell? ⟨b, 97 + k * 2, none⟩ = some (.int .i64 (s.bS k)) := by
 have := rowI_cell h (i := 97 + k * 2) (by omega); rw [Nd.flat_bS s hk] at this; exact this
theorem NAt.bD {k : Nat} (hk : k < 6) : w.cell? ⟨b, 97 + k * 2 + 1, none⟩ = some (.int .i64 (s.bD k)) := by
 have := rowI_cell h (i := 97 + k * 2 + 1) (by omega); rw [Nd.flat_bD s hk] at this; exact this
theorem NAt.set {s' : Nd.NS} (i : Nat) (v : Int) (e : ∀ j, j < 109 → Nd.flat s' j = if j = i then v else Nd.flat s j) : NAt (w.setCell ⟨b, i, none⟩ (.int .i64 v)) b t s' := rowI_set h i v e
theorem NAt.lt : b < w.heap.size := World.rowIs.lt h
theorem NAt.fz (i : Nat) : w.frozen? ⟨b, i, none⟩ = false := rF h i
theorem NAt.keep {S : Nat → Prop} {w' : World} (hf : Fr S w w') (hb : ¬ S b) : NAt w' b t s := hf.row h hb
theorem NAt.alloc (o : Obj) : NAt (w.alloc o) b t s := World.rowIs.alloc h o
end
theorem better_any (a b c d : Int) (w : World) :
  Calls Tryz.prog 187 #[.agg #[.int .i64 a, .int .i64 b], .agg #[.int .i64 c, .int .i64 d]] w (BoolFr (Nd.betB a b c d) w) := by
 by_cases h1 : c < a
 ·have hb : Nd.betB a b c d = true := by rw [Nd.betB_iff]; omega
  have HB := zh hb; clear hb;go_enter Tryz.func187, Tryz.ntmps187
  go_wp2;go_ret
  exact ⟨ret_bool HB.out.symm, ((Fr.refl _ _).alloc _).alloc _⟩
 by_cases h2 : a = c
 ·subst h2;have hb : Nd.betB a b a d = decide (b < d) := by unfold Nd.betB; exact decide_eq_decide.2 (by omega)
  have HB := zh hb; clear hb;go_enter Tryz.func187, Tryz.ntmps187
  go_wp2;go_ret
  exact ⟨ret_bool HB.out.symm, ((Fr.refl _ _).alloc _).alloc _⟩
 have hb : Nd.betB a b c d = false := by rw [Nd.betB_no]; omega
 have HB := zh hb; clear hb
 have h3 : (a == c) = false := by simpa using h2
 clear h2
 go_enter Tryz.func187, Tryz.ntmps187
 go_wp2
 go_ret
 exact ⟨ret_bool HB.out.symm, ((Fr.refl _ _).alloc _).alloc _⟩
theorem Better_any (a b c d : Int) (w : World) :
  Calls Tryz.prog 186 #[.int .i64 a, .int .i64 b, .int .i64 c, .int .i64 d] w (BoolFr (Nd.betB a b c d) w) := by
 go_enter Tryz.func186, Tryz.ntmps186
 go_wp2_with fail
 refine (better_any a b c d _).mono ?_
 rintro e w1 ⟨rfl, hF⟩
 have HF := zh hF; clear hF
 go_wp2
 go_ret
 exact ⟨rfl, HF.out⟩
theorem RBetter_any (a b c d : Int) (w : World) :
  Calls Tryz.prog 161 #[.int .i64 a, .int .i64 b, .int .i64 c, .int .i64 d] w fun e w' => e = .returned (.bool (Nd.betB a b c d)) ∧ w = w' := by
 by_cases h2 : a = c
 ·subst h2;have hb : Nd.betB a b a d = decide (b < d) := by unfold Nd.betB; exact decide_eq_decide.2 (by omega)
  have HB := zh hb; clear hb;go_enter Tryz.func161, Tryz.ntmps161
  go_wp2;go_ret
  exact ⟨ret_bool HB.out.symm, rfl⟩
 have hb : Nd.betB a b c d = decide (c < a) := by unfold Nd.betB; exact decide_eq_decide.2 (by omega)
 have HB := zh hb; clear hb
 have h3 : (a != c) = true := by simpa using h2
 clear h2
 go_enter Tryz.func161, Tryz.ntmps161
 go_wp2
 go_ret
 exact ⟨ret_bool HB.out.symm, rfl⟩
theorem NAt.setH {w : World} {b : Nat} {t : TypeId} {s : Nd.NS} (h : NAt w b t s) {i k : Nat} (hi : i < 6) (hk : k < 6) (q d : Int) :
  NAt ((w.setCell ⟨b, 7 + i * 12 + k * 2, none⟩ (.int .i64 q)).setCell ⟨b, 7 + i * 12 + k * 2 + 1, none⟩ (.int .i64 d)) b t { s with hS := Nd.up2 s.hS i k q, hD := Nd.up2 s.hD i k d } :=
 NAt.set (s := { s with hS := Nd.up2 s.hS i k q }) (NAt.set h _ q (Nd.set_hS s hi hk q)) _ d (Nd.set_hD { s with hS := Nd.up2 s.hS i k q } hi hk d)
theorem NAt.setB {w : World} {b : Nat} {t : TypeId} {s : Nd.NS} (h : NAt w b t s) {k : Nat} (hk : k < 6) (q d : Int) :
  NAt ((w.setCell ⟨b, 97 + k * 2, none⟩ (.int .i64 q)).setCell ⟨b, 97 + k * 2 + 1, none⟩ (.int .i64 d)) b t { s with bS := Nd.up s.bS k q, bD := Nd.up s.bD k d } :=
 NAt.set (s := { s with bS := Nd.up s.bS k q }) (NAt.set h _ q (fun j _ => Nd.set_bS s hk q j)) _ d (fun j _ => Nd.set_bD { s with bS := Nd.up s.bS k q } hk d j)
theorem NAt.setW {w : World} {b : Nat} {t : TypeId} {s : Nd.NS} (h : NAt w b t s) {k : Nat} (hk : k < 6) (q d p : Int) :
  NAt (((w.setCell ⟨b, 79 + k * 3, none⟩ (.int .i64 q)).setCell ⟨b, 79 + k * 3 + 1, none⟩ (.int .i64 d)).setCell ⟨b, 79 + k * 3 + 2, none⟩ (.int .i64 p)) b t { s with wS := Nd.up s.wS k q, wD := Nd.up s.wD k d, wH := Nd.up s.wH k p } :=
 NAt.set (s := { s with wS := Nd.up s.wS k q, wD := Nd.up s.wD k d }) (NAt.set (s := { s with wS := Nd.up s.wS k q }) (NAt.set h _ q (fun j _ => Nd.set_wS s hk q j)) _ d (fun j _ => Nd.set_wD { s with wS := Nd.up s.wS k q } hk d j)) _ p (fun j _ => Nd.set_wH { s with wS := Nd.up s.wS k q, wD := Nd.up s.wD k d } hk p j)
theorem NAt.setC {w : World} {b : Nat} {t : TypeId} {s : Nd.NS} (h : NAt w b t s) {k : Nat} (hk : k < 6) (v : Int) : NAt (w.setCell ⟨b, 1 + k, none⟩ (.int .i64 v)) b t { s with cost := Nd.up s.cost k v } :=
 NAt.set h _ v (fun j _ => Nd.set_cost s hk v j)
def NilFr (b : Nat) (t : TypeId) (s : Nd.NS) (w : World) (e : Ending) (w' : World) : Prop := e = .returned (.tuple #[]) ∧ NAt w' b t s ∧ Fr (OneB b) w w'
def FgRel (b : Nat) (s : Nd.NS) (who : Nat) (w : World) (i : Value) (wr : World) : Prop := ∃ k : Nat, k ≤ 6 ∧ i = .int .i64 k ∧ NAt wr b 146 (Nd.forgetK s who k) ∧ Fr (OneB b) w wr
theorem forget_any (b who : Nat) (s : Nd.NS) (w : World) (hw : who < 6) (hn : NAt w b 146 s) :
  Calls Tryz.prog 67 #[.pointer (some ⟨b, 0, none⟩), .int .i64 who] w (NilFr b 146 (Nd.forget s who) w) := by
 have HN := zh hn; clear hn
 go_enter Tryz.func67, Tryz.ntmps67
 go_wp2
 go_loopw [5] (fun i wr => FgRel b s who w i wr) (fun i _ => 6 - (intOf i).toNat)
 case atStart => exact ⟨0, by omega, rfl, by rw [Nd.forgetK_zero]; exact HN.out, Fr.refl _ _⟩
 case round =>
  clear HN;obtain ⟨k, hk, rfl, hn, hf⟩ := hrel
  have HN := zh hn; clear hn;have HF := zh hf; clear hf
  by_cases hk6 : k < 6
  ·have c1 := HN.out.hS hw hk6
   have c2 := HN.out.hD hw hk6
   have f1 := HN.out.fz (7 + who * 12 + k * 2)
   have f2 := HN.out.fz (7 + who * 12 + k * 2 + 1)
   go_wp2;go_roundw
   case rel => exact ⟨k + 1, by omega, by go_num, by rw [Nd.forgetK_succ]; exact HN.out.setH hw hk6 0 200, (HF.out.set1 _ _).set1 _ _⟩
   case measure => simp [intOf]; omega
  obtain rfl : k = 6 := by omega
  go_wp2;refine bodyPost_end (results_none rfl _ _ _) rfl ?_
  exact ⟨rfl, HN.out, HF.out⟩
theorem own_any (b : Nat) (s : Nd.NS) (w : World) (hm : s.me < 6) (hn : NAt w b 146 s) :
  Calls Tryz.prog 68 #[.pointer (some ⟨b, 0, none⟩)] w (NilFr b 146 (Nd.own s) w) := by
 have c0 := hn.me
 have c1 := hn.wS hm
 have c2 := hn.wD hm
 have c3 := hn.wH hm
 have f1 := hn.fz (79 + s.me * 3 + 1)
 have f2 := hn.fz (79 + s.me * 3 + 2)
 have HN := zh hn; clear hn
 go_enter Tryz.func68, Tryz.ntmps68
 go_wp2
 go_quiet (fail)
 go_wp2
 have hn1 : NAt (((w.drewN nq).setCell ⟨b, 79 + s.me * 3 + 1, none⟩ (.int .i64 0)).setCell ⟨b, 79 + s.me * 3 + 2, none⟩ (.int .i64 s.me)) b 146 { s with wD := Nd.up s.wD s.me 0, wH := Nd.up s.wH s.me s.me } :=
  NAt.set (s := { s with wD := Nd.up s.wD s.me 0 }) (NAt.set (w := w.drewN nq) HN.out _ 0 (fun j _ => Nd.set_wD s hm 0 j)) _ s.me (fun j _ => Nd.set_wH { s with wD := Nd.up s.wD s.me 0 } hm s.me j)
 have hf1 : Fr (OneB b) w (((w.drewN nq).setCell ⟨b, 79 + s.me * 3 + 1, none⟩ (.int .i64 0)).setCell ⟨b, 79 + s.me * 3 + 2, none⟩ (.int .i64 s.me)) := (((Fr.refl _ _).drewN nq).set1 _ _).set1 _ _
 generalize ((w.drewN nq).setCell ⟨b, 79 + s.me * 3 + 1, none⟩ (.int .i64 0)).setCell ⟨b, 79 + s.me * 3 + 2, none⟩ (.int .i64 s.me) = w1 at *
 clear c0 c1 c2 c3 f1 f2 HN
 have c0 := hn1.me
 have c1 := hn1.wS hm
 have c2 := hn1.bS hm
 have c3 := hn1.bD hm
 have f1 := hn1.fz (97 + s.me * 2)
 have f2 := hn1.fz (97 + s.me * 2 + 1)
 have HN := zh hn1; clear hn1
 have HF := zh hf1; clear hf1
 have hmi : (s.me : Int) < 6 := by omega
 go_still_tail 13, (by kernel_rfl)
 go_wp2
 refine bodyPost_end (results_none rfl _ _ _) rfl ?_
 exact ⟨rfl, NAt.setB (w := w1.drew) HN.out hm (s.wS s.me) 0, (HF.out.drew.set1 _ _).set1 _ _⟩
theorem may_any (b who tn : Nat) (s : Nd.NS) (w : World) (hw : who < 6) (ht : tn < 6) (hc : 0 ≤ s.cost who ∧ s.cost who ≤ 15) (hd : 0 ≤ s.hD who tn ∧ s.hD who tn ≤ 200) (hn : NAt w b 146 s) :
  Calls Tryz.prog 185 #[.pointer (some ⟨b, 0, none⟩), .int .i64 who, .int .i64 tn] w (BoolFr (Nd.may s who tn) w) := by
 have c0 := hn.cost hw
 have c1 := hn.hS hw ht
 have c2 := hn.hD hw ht
 have c3 := hn.bS ht
 have c4 := hn.bD ht
 have hl := hn.lt
 have hwi : (who : Int) < 6 := by omega
 have hti : (tn : Int) < 6 := by omega
 clear hn
 obtain ⟨k0, k1⟩ := hc
 obtain ⟨d0, d1⟩ := hd
 by_cases g1 : 0 < s.cost who
 ·by_cases g2 : s.hD who tn + s.cost who < 200
  ·have hmay : Nd.may s who tn = Nd.betB (s.hS who tn) (s.hD who tn) (s.bS tn) (s.bD tn) := by simp [Nd.may, g1, g2]
   have HM := zh hmay; clear hmay;go_enter Tryz.func185, Tryz.ntmps185
   go_wp2;refine wp_name fun w1 hw1 => ?_
   have hf1 : Fr NoB w w1 := by rw [hw1]; exact (Fr.refl _ w).alloc _
   have b0 : w1.cell? ⟨w.heap.size, 0, none⟩ = some (.int .i64 (s.hS who tn)) := by rw [hw1]; simp
   have b1 : w1.cell? ⟨w.heap.size, 1, none⟩ = some (.int .i64 (s.hD who tn)) := by rw [hw1]; simp
   have c0 := cell_fr hf1 c0 (fun h => h)
   have c3 := cell_fr hf1 c3 (fun h => h)
   have c4 := cell_fr hf1 c4 (fun h => h)
   clear hw1;have HF := zh hf1; clear hf1
   have hsum := IntWalk.i64_in (s.hD who tn + s.cost who) (by omega)
   (refine still_tail 27 (by kernel_rfl) (by kernel_rfl) ?_; simp only [List.take_succ_cons, List.take_zero, List.drop_succ_cons, List.drop_zero]; (iterate 27 (refine wpStill_step (fun K hK => ?_); go_simp; (with_reducible refine hK _ ?_); clear hK K)); refine wpStill_nil ?_)
   go_wp2_with fail;refine (better_any _ _ _ _ _).mono ?_
   rintro e w2 ⟨rfl, hF⟩
   have hF1 : Fr NoB w w2 := HF.out.drew.trans hF
   clear hF HF;have HF := zh hF1; clear hF1
   go_wp2;go_ret
   exact ⟨ret_bool HM.out.symm, HF.out⟩
  have hmay : Nd.may s who tn = false := by simp only [Nd.may]; rw [decide_eq_false (by omega)]; rfl
  have g3 : decide (s.hD who tn + s.cost who < 200) = false := by simpa using g2
  have HM := zh hmay; clear hmay;clear g2
  go_enter Tryz.func185, Tryz.ntmps185
  go_wp2;go_quiet (fail)
  go_wp2;go_ret
  exact ⟨ret_bool HM.out.symm, ((Fr.refl _ _).alloc _).drewN _⟩
 have hmay : Nd.may s who tn = false := by simp only [Nd.may]; rw [decide_eq_false (by omega)]; rfl
 have g3 : decide (0 < s.cost who) = false := by simpa using g1
 have HM := zh hmay; clear hmay
 clear g1
 go_enter Tryz.func185, Tryz.ntmps185
 go_wp2
 go_quiet (fail)
 go_wp2
 go_ret
 exact ⟨ret_bool HM.out.symm, ((Fr.refl _ _).alloc _).drewN _⟩
def wayF (x : Nd.Way) (i : Nat) : Int := if i = 0 then x.seq else if i = 1 then x.dist else x.hop
def WAt (w : World) (p : Nat) (x : Nd.Way) : Prop := w.rowIs p 95 3 (I (wayF x))
section
variable {w : World} {p : Nat} {x : Nd.Way} (h : WAt w p x)
include h
theorem WAt.c0 : w.cell? ⟨p, 0, none⟩ = some (.int .i64 x.seq) := rowI_cell h (i := 0) (by omega)
theorem WAt.c1 : w.cell? ⟨p, 1, none⟩ = some (.int .i64 x.dist) := rowI_cell h (i := 1) (by omega)
theorem WAt.c2 : w.cell? ⟨p, 2, none⟩ = some (.int .i64 x.hop) := rowI_cell h (i := 2) (by omega)
theorem WAt.fz (i : Nat) : w.frozen? ⟨p, i, none⟩ = false := rF h i
theorem WAt.set (q d r : Int) : WAt (((w.setCell ⟨p, 0, none⟩ (.int .i64 q)).setCell ⟨p, 1, none⟩ (.int .i64 d)).setCell ⟨p, 2, none⟩ (.int .i64 r)) p ⟨q, d, r⟩ :=
 rowI_set (rowI_set (rowI_set h 0 q (g := fun i => if i = 0 then q else wayF x i) (fun j _ => rfl)) 1 d (g := fun i => if i = 1 then d else if i = 0 then q else wayF x i) (fun j _ => rfl)) 2 r (fun j hj => by
  match j, hj with
  | 0, _ => rfl
  | 1, _ => rfl
  | 2, _ => rfl)
theorem WAt.keep {S : Nat → Prop} {w' : World} (hf : Fr S w w') (hb : ¬ S p) : WAt w' p x := hf.row h hb
theorem WAt.alloc (o : Obj) : WAt (w.alloc o) p x := World.rowIs.alloc h o
end
theorem WAt.new (w : World) (q d r : Int) : WAt (w.alloc (.cells #[.int .i64 q, .int .i64 d, .int .i64 r] 95)) w.heap.size ⟨q, d, r⟩ :=
 World.rowIs_alloc w _ _ (I (wayF ⟨q, d, r⟩)) (fun i hi => by
  match i, hi with
  | 0, _ => rfl
  | 1, _ => rfl
  | 2, _ => rfl)
theorem NAt.other {w : World} {b : Nat} {t : TypeId} {s : Nd.NS} (h : NAt w b t s) {p : Nat} (hp : b ≠ p) (o : Nat) (v : Value) : NAt (w.setCell ⟨p, o, none⟩ v) b t s := World.rowIs.setOther h (a := ⟨p, o, none⟩) hp v
theorem WAt.other {w : World} {b : Nat} {s : Nd.Way} (h : WAt w b s) {p : Nat} (hp : b ≠ p) (o : Nat) (v : Value) : WAt (w.setCell ⟨p, o, none⟩ v) b s := World.rowIs.setOther h (a := ⟨p, o, none⟩) hp v
def PkRel (b : Nat) (s : Nd.NS) (tn p : Nat) (w : World) (i : Value) (wr : World) : Prop :=
 ∃ k : Nat, k ≤ 6 ∧ i = .int .i64 k ∧ NAt wr b 146 s ∧ WAt wr p (Nd.choose s tn k) ∧ Fr NoB w wr
theorem pick_any (b tn : Nat) (s : Nd.NS) (w : World) (ok : Nd.Ok s) (ht : tn < 6) (hn : NAt w b 146 s) :
  Calls Tryz.prog 169 #[.pointer (some ⟨b, 0, none⟩), .int .i64 tn] w (NilFr b 146 (Nd.pick s tn) w) := by
 have hm := ok.me
 have c0 := hn.me
 by_cases hme : tn = s.me
 ·have hb : ((tn : Int) == (s.me : Int)) = true := by simp [hme]
  have hp : Nd.pick s tn = s := by rw [Nd.pick, if_pos hme]
  have HP := zh hp; clear hp; have HN := zh hn; clear hn; have HME := zh hme; clear hme;go_enter Tryz.func169, Tryz.ntmps169
  go_wp2;refine bodyPost_end (results_none rfl _ _ _) rfl ?_
  exact ⟨rfl, by rw [HP.out]; exact HN.out, Fr.refl _ _⟩
 have hb : ((tn : Int) == (s.me : Int)) = false := by simp; omega
 have hp : Nd.pick s tn = Nd.lay s tn (Nd.choose s tn 6) := by rw [Nd.pick, if_neg hme]
 have c1 := hn.bS ht
 have hl := hn.lt
 have HP := zh hp; clear hp; have HN := zh hn; clear hn; have HME := zh hme; clear hme; have HOk := zh ok; clear ok
 go_enter Tryz.func169, Tryz.ntmps169
 go_wp2
 refine wp_name fun w1 hw1 => ?_
 have hf1 : Fr NoB w w1 := by rw [hw1]; exact (Fr.refl _ w).alloc _
 have hr1 : WAt w1 w.heap.size (Nd.none s tn) := by rw [hw1]; exact WAt.new w _ _ _
 have hn1 := HN.out.keep hf1 (fun h => h)
 clear hw1 c0 c1 hb
 have HF1 := zh hf1; clear hf1; have HR1 := zh hr1; clear hr1; have HN1 := zh hn1; clear hn1
 go_loopw [22] (fun i wr => PkRel b s tn w.heap.size w i wr) (fun i _ => 6 - (intOf i).toNat)
 case atStart => exact ⟨0, by omega, rfl, HN1.out, HR1.out, HF1.out⟩
 case round =>
  clear HF1 HR1 HN1;obtain ⟨k, hk, rfl, hn, hr, hf⟩ := hrel
  have HN1 := zh hn; clear hn; have HR1 := zh hr; clear hr; have HF1 := zh hf; clear hf;by_cases hk6 : k < 6
  ·have kc := HOk.out.cost k hk6
   have kd := HOk.out.hD k tn hk6 ht
   cases hm : Nd.may s k tn
   ·have hst := Nd.choose_miss s tn k (by rw [hm]; simp)
    have HST := zh hst; clear hst; have HM := zh hm; clear hm;go_wp2_with fail
    refine (may_any b k tn s _ hk6 ht kc kd HN1.out).mono ?_
    rintro e w2 ⟨rfl, hF2⟩
    have hn2 := HN1.out.keep hF2 (fun h => h)
    have hr2 := HR1.out.keep hF2 (fun h => h)
    have hf2 := HF1.out.trans hF2
    clear hF2;have HN2 := zh hn2; clear hn2; have HR2 := zh hr2; clear hr2; have HF2 := zh hf2; clear hf2
    rw [HM.out];go_wp2
    go_roundw
    case rel => exact ⟨k + 1, by omega, by go_num, HN2.out, by rw [HST.out]; exact HR2.out, HF2.out⟩
    case measure => simp [intOf]; omega
   have HM := zh hm; clear hm;go_wp2_with fail
   refine (may_any b k tn s _ hk6 ht kc kd HN1.out).mono ?_
   rintro e w2 ⟨rfl, hF2⟩
   have hn2 := HN1.out.keep hF2 (fun h => h)
   have hr2 := HR1.out.keep hF2 (fun h => h)
   have hf2 := HF1.out.trans hF2
   clear hF2;have g1 := hn2.hS hk6 ht
   have g2 := hn2.hD hk6 ht
   have hl2 := hn2.lt
   have HN2 := zh hn2; clear hn2; have HR2 := zh hr2; clear hr2; have HF2 := zh hf2; clear hf2;rw [HM.out]
   go_wp2;refine wp_name fun w3 hw3 => ?_
   have b0 : w3.cell? ⟨w2.heap.size, 0, none⟩ = some (.int .i64 (s.hS k tn)) := by rw [hw3]; simp
   have b1 : w3.cell? ⟨w2.heap.size, 1, none⟩ = some (.int .i64 (s.hD k tn)) := by rw [hw3]; simp
   have hf : Fr NoB w2 w3 := by rw [hw3]; exact (Fr.refl _ _).alloc _
   have hn3 := HN2.out.keep hf (fun h => h)
   have hr3 := HR2.out.keep hf (fun h => h)
   have hf3 := HF2.out.trans hf
   have hne : b ≠ w.heap.size := by omega
   clear hw3 g1 g2 hl2 hf;have d0 := hr3.c0
   have d1 := hr3.c1
   have d2 := hr3.c2
   have f0 := hr3.fz 0
   have f1 := hr3.fz 1
   have f2 := hr3.fz 2
   have e0 := hn3.cost hk6
   have hsum := IntWalk.i64_in (s.hD k tn + s.cost k) (by omega)
   have HN3 := zh hn3; clear hn3; have HR3 := zh hr3; clear hr3; have HF3 := zh hf3; clear hf3; have HNE := zh hne; clear hne;have hki : (k : Int) < 6 := by omega
   by_cases hx : (Nd.choose s tn k).hop = -1
   ·have hst := Nd.choose_hit s tn k ⟨HM.out, .inl hx⟩
    have hb : ((Nd.choose s tn k).hop == -1) = true := by simp [hx]
    have HST := zh hst; clear hst; have HX := zh hx; clear hx;go_quiet (fail)
    go_wp2;(refine still_tail 13 (by kernel_rfl) (by kernel_rfl) ?_; simp only [List.take_succ_cons, List.take_zero, List.drop_succ_cons, List.drop_zero]; (iterate 13 (refine wpStill_step (fun K hK => ?_); go_simp; (with_reducible refine hK _ ?_); clear hK K)); refine wpStill_nil ?_)
    go_wp2;go_roundw
    case rel => exact ⟨k + 1, by omega, by go_num, ((((HN3.out : NAt ((w3.drewN nq).drew) b _ s)).other HNE.out 0 _).other HNE.out 1 _).other HNE.out 2 _, by rw [HST.out]; exact WAt.set ((HR3.out : WAt ((w3.drewN nq).drew) _ _)) _ _ _, (((HF3.out.drewN nq).drew.setNew (Nat.le_refl _) 0 _).setNew (Nat.le_refl _) 1 _).setNew (Nat.le_refl _) 2 _⟩
    case measure => simp [intOf]; omega
   have hb : ((Nd.choose s tn k).hop == -1) = false := by simp [hx]
   have HX := zh hx; clear hx;cases hbt : Nd.betB (s.hS k tn) (s.hD k tn + s.cost k) (Nd.choose s tn k).seq (Nd.choose s tn k).dist
   ·have hst := Nd.choose_miss s tn k (by
     rintro ⟨_, h | h⟩
     ·exact HX.out h
     rw [hbt] at h; cases h)
    have HST := zh hst; clear hst; have HB := zh hbt; clear hbt;(refine still_tail 19 (by kernel_rfl) (by kernel_rfl) ?_; simp only [List.take_succ_cons, List.take_zero, List.drop_succ_cons, List.drop_zero]; (iterate 19 (refine wpStill_step (fun K hK => ?_); go_simp; (with_reducible refine hK _ ?_); clear hK K)); refine wpStill_nil ?_)
    go_wp2_with fail;refine (Better_any _ _ _ _ _).mono ?_
    rintro e w4 ⟨rfl, hF4⟩
    have hn4 := NAt.keep (w := w3.drew) HN3.out hF4 (fun h => h)
    have hr4 := WAt.keep (w := w3.drew) HR3.out hF4 (fun h => h)
    have hf4 := HF3.out.drew.trans hF4
    clear hF4;have HN4 := zh hn4; clear hn4; have HR4 := zh hr4; clear hr4; have HF4 := zh hf4; clear hf4
    rw [HB.out];go_wp2
    go_roundw
    case rel => exact ⟨k + 1, by omega, by go_num, HN4.out, by rw [HST.out]; exact HR4.out, HF4.out⟩
    case measure => simp [intOf]; omega
   have hst := Nd.choose_hit s tn k ⟨HM.out, .inr hbt⟩
   have HST := zh hst; clear hst; have HB := zh hbt; clear hbt;(refine still_tail 19 (by kernel_rfl) (by kernel_rfl) ?_; simp only [List.take_succ_cons, List.take_zero, List.drop_succ_cons, List.drop_zero]; (iterate 19 (refine wpStill_step (fun K hK => ?_); go_simp; (with_reducible refine hK _ ?_); clear hK K)); refine wpStill_nil ?_)
   go_wp2_with fail;refine (Better_any _ _ _ _ _).mono ?_
   rintro e w4 ⟨rfl, hF4⟩
   have hn4 := NAt.keep (w := w3.drew) HN3.out hF4 (fun h => h)
   have hr4 := WAt.keep (w := w3.drew) HR3.out hF4 (fun h => h)
   have hf4 := HF3.out.drew.trans hF4
   have b0 := cell_fr (w := w3.drew) hF4 b0 (fun h => h)
   have b1 := cell_fr (w := w3.drew) hF4 b1 (fun h => h)
   clear hF4 d0 d1 d2 f0 f1 f2 e0;have d0 := hr4.c0
   have d1 := hr4.c1
   have d2 := hr4.c2
   have f0 := hr4.fz 0
   have f1 := hr4.fz 1
   have f2 := hr4.fz 2
   have e0 := hn4.cost hk6
   have HN4 := zh hn4; clear hn4; have HR4 := zh hr4; clear hr4; have HF4 := zh hf4; clear hf4;rw [HB.out]
   go_wp2;(refine still_tail 13 (by kernel_rfl) (by kernel_rfl) ?_; simp only [List.take_succ_cons, List.take_zero, List.drop_succ_cons, List.drop_zero]; (iterate 13 (refine wpStill_step (fun K hK => ?_); go_simp; (with_reducible refine hK _ ?_); clear hK K)); refine wpStill_nil ?_)
   go_wp2;go_roundw
   case rel => exact ⟨k + 1, by omega, by go_num, ((((HN4.out : NAt w4.drew b _ s)).other HNE.out 0 _).other HNE.out 1 _).other HNE.out 2 _, by rw [HST.out]; exact WAt.set ((HR4.out : WAt w4.drew _ _)) _ _ _, ((HF4.out.drew.setNew (Nat.le_refl _) 0 _).setNew (Nat.le_refl _) 1 _).setNew (Nat.le_refl _) 2 _⟩
   case measure => simp [intOf]; omega
  obtain rfl : k = 6 := by omega
  have hti : (tn : Int) < 6 := by omega
  have d0 := HR1.out.c0
  have d1 := HR1.out.c1
  have d2 := HR1.out.c2
  have g0 := HN1.out.wS ht
  have g1 := HN1.out.wD ht
  have g2 := HN1.out.wH ht
  have f0 := HN1.out.fz (79 + tn * 3)
  have f1 := HN1.out.fz (79 + tn * 3 + 1)
  have f2 := HN1.out.fz (79 + tn * 3 + 2)
  go_wp2;(refine still_tail 6 (by kernel_rfl) (by kernel_rfl) ?_; simp only [List.take_succ_cons, List.take_zero, List.drop_succ_cons, List.drop_zero]; (iterate 6 (refine wpStill_step (fun K hK => ?_); go_simp; (with_reducible refine hK _ ?_); clear hK K)); refine wpStill_nil ?_)
  go_wp2;have hne : w.heap.size ≠ b := by omega
  refine wp_name fun w2 hw2 => ?_
  have hn2 : NAt w2 b 146 { s with wS := Nd.up s.wS tn (Nd.choose s tn 6).seq, wD := Nd.up s.wD tn (Nd.choose s tn 6).dist, wH := Nd.up s.wH tn (Nd.choose s tn 6).hop } := by
   rw [hw2];exact World.rowIs.drew ((HN1.out.setW ht _ _ _).alloc _)
  have hr2 : WAt w2 w.heap.size (Nd.choose s tn 6) := by
   rw [hw2];exact World.rowIs.drew ((((HR1.out.other hne _ _).other hne _ _).other hne _ _).alloc _)
  have b0 : w2.cell? ⟨wr.heap.size, 0, none⟩ = some (.int .i64 (Nd.choose s tn 6).seq) := by rw [hw2, World.cell?_drew, World.cell?_alloc_at _ _ _ _ (by simp)]; rfl
  have b1 : w2.cell? ⟨wr.heap.size, 1, none⟩ = some (.int .i64 (Nd.choose s tn 6).dist) := by rw [hw2, World.cell?_drew, World.cell?_alloc_at _ _ _ _ (by simp)]; rfl
  have hf2 : Fr (OneB b) w w2 := by
   rw [hw2];exact ((((HF1.out.one.set1 _ _).set1 _ _).set1 _ _).alloc _).drew
  clear hw2 d0 d1 d2 g0 g1 g2 f0 f1 f2 HR1 HN1 HF1;have d2 := hr2.c2
  have e0 := hn2.bS ht
  have e1 := hn2.bD ht
  have HN2 := zh hn2; clear hn2; have HF2 := zh hf2; clear hf2;clear hr2
  by_cases hx : (Nd.choose s tn 6).hop = -1
  ·have hb : ((Nd.choose s tn 6).hop != -1) = false := by simp [hx]
   have hy := Nd.lay_keep s tn (Nd.choose s tn 6) (fun h => h.1 hx)
   have HY := zh hy; clear hy; have HX := zh hx; clear hx;go_quiet (fail)
   go_wp2;refine bodyPost_end (results_none rfl _ _ _) rfl ?_
   exact ⟨rfl, by rw [HP.out, HY.out]; exact HN2.out, HF2.out.drewN _⟩
  have hb : ((Nd.choose s tn 6).hop != -1) = true := by simp [hx]
  have HX := zh hx; clear hx;(refine still_tail 11 (by kernel_rfl) (by kernel_rfl) ?_; simp only [List.take_succ_cons, List.take_zero, List.drop_succ_cons, List.drop_zero]; (iterate 11 (refine wpStill_step (fun K hK => ?_); go_simp; (with_reducible refine hK _ ?_); clear hK K)); refine wpStill_nil ?_)
  go_wp2_with fail;refine (better_any _ _ _ _ _).mono ?_
  rintro e w3 ⟨rfl, hF3⟩
  have hn3 := NAt.keep (w := w2.drew) HN2.out hF3 (fun h => h)
  have hf3 := HF2.out.drew.trans hF3.one
  have b0 := cell_fr (w := w2.drew) hF3 b0 (fun h => h)
  have b1 := cell_fr (w := w2.drew) hF3 b1 (fun h => h)
  clear hF3 d2;have e0 := hn3.bS ht
  have e1 := hn3.bD ht
  have f0 := hn3.fz (97 + tn * 2)
  have f1 := hn3.fz (97 + tn * 2 + 1)
  have HN3 := zh hn3; clear hn3; have HF3 := zh hf3; clear hf3;cases hbt : Nd.betB (Nd.choose s tn 6).seq (Nd.choose s tn 6).dist (s.bS tn) (s.bD tn)
  ·have hy := Nd.lay_keep s tn (Nd.choose s tn 6) (fun h => by rw [hbt] at h; cases h.2)
   have HY := zh hy; clear hy; have HB := zh hbt; clear hbt;go_wp2
   refine bodyPost_end (results_none rfl _ _ _) rfl ?_
   exact ⟨rfl, by rw [HP.out, HY.out]; exact HN3.out, HF3.out⟩
  have hy := Nd.lay_best s tn (Nd.choose s tn 6) ⟨HX.out, hbt⟩
  have HY := zh hy; clear hy; have HB := zh hbt; clear hbt;go_wp2
  (refine still_tail 6 (by kernel_rfl) (by kernel_rfl) ?_; simp only [List.take_succ_cons, List.take_zero, List.drop_succ_cons, List.drop_zero]; (iterate 6 (refine wpStill_step (fun K hK => ?_); go_simp; (with_reducible refine hK _ ?_); clear hK K)); refine wpStill_nil ?_)
  go_wp2;refine bodyPost_end (results_none rfl _ _ _) rfl ?_
  exact ⟨rfl, by rw [HP.out, HY.out]; exact NAt.setB (w := w3.drew) HN3.out ht _ _, (HF3.out.drew.set1 _ _).set1 _ _⟩
def AlRel (b : Nat) (s : Nd.NS) (w : World) (i : Value) (wr : World) : Prop :=
 ∃ k : Nat, k ≤ 6 ∧ i = .int .i64 k ∧ NAt wr b 146 (Nd.all s k) ∧ Fr (OneB b) w wr
theorem all_any (b : Nat) (s : Nd.NS) (w : World) (ok : Nd.Ok s) (hn : NAt w b 146 s) :
  Calls Tryz.prog 184 #[.pointer (some ⟨b, 0, none⟩)] w (NilFr b 146 (Nd.all s 6) w) := by
 have HN := zh hn; clear hn; have HOk := zh ok; clear ok
 go_enter Tryz.func184, Tryz.ntmps184
 go_wp2
 go_loopw [3] (fun i wr => AlRel b s w i wr) (fun i _ => 6 - (intOf i).toNat)
 case atStart => exact ⟨0, by omega, rfl, HN.out, Fr.refl _ _⟩
 case round =>
  clear HN;obtain ⟨k, hk, rfl, hn, hf⟩ := hrel
  have HN := zh hn; clear hn; have HF := zh hf; clear hf;by_cases hk6 : k < 6
  ·go_wp2_with fail;refine (pick_any b k (Nd.all s k) _ (HOk.out.all k) hk6 HN.out).mono ?_
   rintro e w2 ⟨rfl, hn2, hf2⟩
   have hf3 := HF.out.trans hf2
   clear hf2;have HN2 := zh hn2; clear hn2; have HF2 := zh hf3; clear hf3
   go_wp2;go_roundw
   case rel => exact ⟨k + 1, by omega, by go_num, HN2.out, HF2.out⟩
   case measure => simp [intOf]; omega
  obtain rfl : k = 6 := by omega
  go_wp2;refine bodyPost_end (results_none rfl _ _ _) rfl ?_
  exact ⟨rfl, HN.out, HF.out⟩
def CodeFr (b : Nat) (t : TypeId) (s : Nd.NS) (c : Int) (w : World) (e : Ending) (w' : World) : Prop := e = .returned (.int .i64 c) ∧ NAt w' b t s ∧ Fr (OneB b) w w'
theorem Link_ok (b who : Nat) (c : Int) (s : Nd.NS) (w : World) (ok : Nd.Ok s) (hw : who < 6) (hm : who ≠ s.me) (h0 : 0 ≤ c) (h1 : c ≤ 15) (hn : NAt w b 146 s) :
  Calls Tryz.prog 164 #[.pointer (some ⟨b, 0, none⟩), .int .i64 who, .int .i64 c] w (CodeFr b 146 (Nd.link s who c) 0 w) := by
 have c0 := hn.me
 have c1 := hn.cost hw
 have f1 := hn.fz (1 + who)
 have hb : ((who : Int) == (s.me : Int)) = false := by simp; omega
 have HN := zh hn; clear hn; have HM := zh hm; clear hm
 by_cases hz : c = 0
 ·subst hz;have hl : Nd.link s who 0 = Nd.all (Nd.forget { s with cost := Nd.up s.cost who 0 } who) 6 := rfl
  have HL := zh hl; clear hl;go_enter Tryz.func164, Tryz.ntmps164
  go_wp2_with fail;refine (Node_yes _ _ (by omega) (by omega)).mono ?_; rintro e w' ⟨rfl, rfl⟩
  go_wp2_with fail;refine (forget_any b who { s with cost := Nd.up s.cost who 0 } _ hw (HN.out.setC hw 0)).mono ?_
  rintro e w2 ⟨rfl, hn2, hf2⟩
  have hf3 : Fr (OneB b) w w2 := ((Fr.refl _ w).set1 _ _).trans hf2
  clear hf2 c0 c1 f1;have HN2 := zh hn2; clear hn2; have HF2 := zh hf3; clear hf3
  go_wp2_with fail;refine (all_any b _ _ (Nd.Ok.forget (Nd.Ok.cost' ok who 0 (by omega) (by omega)) who) HN2.out).mono ?_
  rintro e w3 ⟨rfl, hn3, hf3⟩
  have hf4 := HF2.out.trans hf3
  clear hf3;have HN3 := zh hn3; clear hn3; have HF3 := zh hf4; clear hf4
  go_wp2;go_ret
  exact ⟨rfl, by rw [HL.out]; exact HN3.out, HF3.out⟩
 have hl : Nd.link s who c = Nd.all { s with cost := Nd.up s.cost who c } 6 := by simp [Nd.link, hz]
 have hzb : (c == 0) = false := by simpa using hz
 have HL := zh hl; clear hl; have HZ := zh hz; clear hz
 go_enter Tryz.func164, Tryz.ntmps164
 go_wp2_with fail
 refine (Node_yes _ _ (by omega) (by omega)).mono ?_; rintro e w' ⟨rfl, rfl⟩
 go_wp2_with fail
 refine (all_any b _ _ (Nd.Ok.cost' ok who c (by omega) (by omega)) (HN.out.setC hw c)).mono ?_
 rintro e w3 ⟨rfl, hn3, hf3⟩
 have hf4 : Fr (OneB b) w w3 := ((Fr.refl _ w).set1 _ _).trans hf3
 clear hf3 c0 c1 f1
 have HN3 := zh hn3; clear hn3; have HF3 := zh hf4; clear hf4
 go_wp2
 go_ret
 exact ⟨rfl, by rw [HL.out]; exact HN3.out, HF3.out⟩
theorem Link_no (b : Nat) (who c : Int) (s : Nd.NS) (w : World) (h : Nd.linkBad s who c) (hn : NAt w b 146 s) :
  Calls Tryz.prog 164 #[.pointer (some ⟨b, 0, none⟩), .int .i64 who, .int .i64 c] w fun e w' => e = .returned (.int .i64 1) ∧ w = w' := by
 have c0 := hn.me
 clear hn
 by_cases hw : 0 ≤ who ∧ who < 6
 ·obtain ⟨hw0, hw1⟩ := hw
  by_cases hm : who = s.me
  ·have hb : (who == (s.me : Int)) = true := by simp [hm]
   clear h hm;go_enter Tryz.func164, Tryz.ntmps164
   go_wp2_with fail;refine (Node_yes _ _ hw0 hw1).mono ?_; rintro e w' ⟨rfl, rfl⟩
   go_wp2;go_ret
   exact ⟨rfl, rfl⟩
  have hb : (who == (s.me : Int)) = false := by simpa using hm
  by_cases hc : c < 0
  ·clear h hm;go_enter Tryz.func164, Tryz.ntmps164
   go_wp2_with fail;refine (Node_yes _ _ hw0 hw1).mono ?_; rintro e w' ⟨rfl, rfl⟩
   go_wp2;go_ret
   exact ⟨rfl, rfl⟩
  have hc0 : 0 ≤ c := by omega
  have hc1 : 15 < c := by
   rcases h with h | h | h | h
   ·exact absurd ⟨hw0, hw1⟩ h
   ·exact absurd h hm
   ·exact absurd h hc
   exact h
  clear h hm hc;go_enter Tryz.func164, Tryz.ntmps164
  go_wp2_with fail;refine (Node_yes _ _ hw0 hw1).mono ?_; rintro e w' ⟨rfl, rfl⟩
  go_wp2;go_ret
  exact ⟨rfl, rfl⟩
 have HW := zh hw; clear hw h
 go_enter Tryz.func164, Tryz.ntmps164
 go_wp2_with fail
 refine (Node_no _ _ HW.out).mono ?_; rintro e w' ⟨rfl, rfl⟩
 go_wp2
 go_ret
 exact ⟨rfl, rfl⟩
theorem Link_any (b : Nat) (who c : Int) (s : Nd.NS) (w : World) (ok : Nd.Ok s) (hn : NAt w b 146 s) :
  Calls Tryz.prog 164 #[.pointer (some ⟨b, 0, none⟩), .int .i64 who, .int .i64 c] w (CodeFr b 146 (Nd.linkC s who c).1 (Nd.linkC s who c).2 w) := by
 by_cases h : Nd.linkBad s who c
 ·have e : Nd.linkC s who c = (s, 1) := by rw [Nd.linkC, if_pos h]
  rw [e];refine (Link_no b who c s w h hn).mono ?_
  rintro e w' ⟨rfl, rfl⟩
  exact ⟨rfl, hn, Fr.refl _ _⟩
 have e : Nd.linkC s who c = (Nd.link s who.toNat c, 0) := by rw [Nd.linkC, if_neg h]
 rw [e]
 simp only [Nd.linkBad] at h
 obtain ⟨x, rfl⟩ := Int.eq_ofNat_of_zero_le (a := who) (by omega)
 rw [Int.toNat_natCast]
 exact Link_ok b x c s w ok (by omega) (by omega) (by omega) (by omega) hn
theorem Tick_any (b : Nat) (s : Nd.NS) (w : World) (hm : s.me < 6) (h0 : 0 ≤ s.wS s.me) (h1 : s.wS s.me < 1000000) (hn : NAt w b 146 s) :
  Calls Tryz.prog 165 #[.pointer (some ⟨b, 0, none⟩)] w (NilFr b 146 (Nd.tick s) w) := by
 have c0 := hn.me
 have c1 := hn.wS hm
 have f1 := hn.fz (79 + s.me * 3)
 have hmi : (s.me : Int) < 6 := by omega
 have hsum := IntWalk.i64_in (s.wS s.me + 1) (by omega)
 have HN := zh hn; clear hn
 go_enter Tryz.func165, Tryz.ntmps165
 go_wp2
 (refine still_tail 15 (by kernel_rfl) (by kernel_rfl) ?_; simp only [List.take_succ_cons, List.take_zero, List.drop_succ_cons, List.drop_zero]; (iterate 15 (refine wpStill_step (fun K hK => ?_); go_simp; (with_reducible refine hK _ ?_); clear hK K)); refine wpStill_nil ?_)
 go_wp2_with fail
 refine (own_any b { s with wS := Nd.up s.wS s.me (s.wS s.me + 1) } _ hm (World.rowIs.drew (NAt.set HN.out _ _ (fun j _ => Nd.set_wS s hm (s.wS s.me + 1) j)))).mono ?_
 rintro e w2 ⟨rfl, hn2, hf2⟩
 have hf3 : Fr (OneB b) w w2 := ((Fr.refl _ w).set1 _ _).drew.trans hf2
 clear hf2 c0 c1 f1
 have HN2 := zh hn2; clear hn2; have HF2 := zh hf3; clear hf3
 go_wp2
 refine bodyPost_end (results_none rfl _ _ _) rfl ?_
 exact ⟨rfl, HN2.out, HF2.out⟩
def way3 (x : Nd.Way) : Value := .agg #[.int .i64 x.seq, .int .i64 x.dist, .int .i64 x.hop]
def WayFr (x : Nd.Way) (w : World) (e : Ending) (w' : World) : Prop := e = .returned (way3 x) ∧ Fr NoB w w'
theorem Way_any (b : Nat) (k : Int) (s : Nd.NS) (w : World) (hn : NAt w b 146 s) :
  Calls Tryz.prog 106 #[.pointer (some ⟨b, 0, none⟩), .int .i64 k] w (WayFr (Nd.wayAt s k) w) := by
 by_cases h : 0 ≤ k ∧ k < 6
 ·obtain ⟨x, rfl⟩ := Int.eq_ofNat_of_zero_le h.1
  have hx : x < 6 := by omega
  have hw : Nd.wayAt s (x : Int) = Nd.wayOf s x := by rw [Nd.wayAt, if_pos h, Int.toNat_natCast]
  have c0 := hn.wS hx
  have c1 := hn.wD hx
  have c2 := hn.wH hx
  have hl := hn.lt
  clear hn h;have HW := zh hw; clear hw
  go_enter Tryz.func106, Tryz.ntmps106
  go_wp2_with fail;refine (Node_yes _ _ (by omega) (by omega)).mono ?_; rintro e w' ⟨rfl, rfl⟩
  go_wp2;refine bodyPost_ret (v := way3 (Nd.wayOf s x)) ?_ rfl ⟨by rw [HW.out], (Fr.refl _ _).alloc _⟩
  simp [results, Tryz.results106, go_sem, way3, Nd.wayOf]
 have hw : Nd.wayAt s k = Nd.noWay := by rw [Nd.wayAt, if_neg h]
 clear hn
 have HW := zh hw; clear hw; have H := zh h; clear h
 go_enter Tryz.func106, Tryz.ntmps106
 go_wp2_with fail
 refine (Node_no _ _ H.out).mono ?_; rintro e w' ⟨rfl, rfl⟩
 go_wp2
 refine bodyPost_ret (v := way3 Nd.noWay) ?_ rfl ⟨by rw [HW.out], (Fr.refl _ _).alloc _⟩
 simp [results, Tryz.results106, go_sem, way3, Nd.noWay]
def news5 (f r t q d : Int) : Value := .agg #[.int .i64 f, .int .i64 r, .int .i64 t, .int .i64 q, .int .i64 d]
theorem Node_q (n : Int) (w : World) : Calls Tryz.prog 66 #[.int .i64 n] w fun e w' => e = .returned (.bool (isNode n)) ∧ w' = w :=
 (Node_any n w).mono fun _ _ h => ⟨h.1, h.2.symm⟩
theorem isNode_yes {n : Int} (h : 0 ≤ n ∧ n < 6) : isNode n = true := by simp [isNode, h]
theorem isNode_no {n : Int} (h : ¬ (0 ≤ n ∧ n < 6)) : isNode n = false := by simp only [isNode, h, decide_false]
theorem Hear_bad (b : Nat) (f r t q d : Int) (s : Nd.NS) (w : World) (h : Nd.hearBad s f t q d) (hn : NAt w b 146 s) :
  Calls Tryz.prog 138 #[.pointer (some ⟨b, 0, none⟩), news5 f r t q d] w (CodeFr b 146 s 1 w) := by
 have hl := hn.lt
 have H : (isNode f = false) ∨ (isNode f = true ∧ isNode t = false) ∨ (isNode f = true ∧ isNode t = true ∧ (f == (s.me : Int)) = true) ∨ (isNode f = true ∧ isNode t = true ∧ (f == (s.me : Int)) = false ∧ decide (q < 0) = true) ∨ (isNode f = true ∧ isNode t = true ∧ (f == (s.me : Int)) = false ∧ decide (q < 0) = false ∧ decide (d < 0) = true) ∨ (isNode f = true ∧ isNode t = true ∧ (f == (s.me : Int)) = false ∧ decide (q < 0) = false ∧ decide (d < 0) = false ∧ decide (200 < d) = true) := by
  by_cases h1 : 0 ≤ f ∧ f < 6
  ·by_cases h2 : 0 ≤ t ∧ t < 6
   ·by_cases h3 : f = s.me
    ·exact .inr (.inr (.inl ⟨isNode_yes h1, isNode_yes h2, by simpa using h3⟩))
    by_cases h4 : q < 0
    ·exact .inr (.inr (.inr (.inl ⟨isNode_yes h1, isNode_yes h2, by simpa using h3, by simpa using h4⟩)))
    by_cases h5 : d < 0
    ·exact .inr (.inr (.inr (.inr (.inl ⟨isNode_yes h1, isNode_yes h2, by simpa using h3, by simpa using h4, by simpa using h5⟩))))
    exact .inr (.inr (.inr (.inr (.inr ⟨isNode_yes h1, isNode_yes h2, by simpa using h3, by simpa using h4, by simpa using h5, by simp only [Nd.hearBad] at h; simp; omega⟩))))
   exact .inr (.inl ⟨isNode_yes h1, isNode_no h2⟩)
  exact .inl (isNode_no h1)
 have c0 := hn.me
 have HN := zh hn; clear hn
 clear h
 rcases H with h1 | ⟨h1, h2⟩ | ⟨h1, h2, h3⟩ | ⟨h1, h2, h3, h4⟩ | ⟨h1, h2, h3, h4, h5⟩ | ⟨h1, h2, h3, h4, h5, h6⟩
 all_goals
  go_enter Tryz.func138, Tryz.ntmps138
  unfold news5;go_wp2
  refine wp_name fun w1 hw1 => ?_
  have hf1 : Fr NoB w w1 := by rw [hw1]; exact (Fr.refl _ w).alloc _
  have hn1 := HN.out.keep hf1 (fun h => h)
  have b0 : w1.cell? ⟨w.heap.size, 0, none⟩ = some (.int .i64 f) := by rw [hw1]; simp
  have b2 : w1.cell? ⟨w.heap.size, 2, none⟩ = some (.int .i64 t) := by rw [hw1]; simp
  have b3 : w1.cell? ⟨w.heap.size, 3, none⟩ = some (.int .i64 q) := by rw [hw1]; simp
  have b4 : w1.cell? ⟨w.heap.size, 4, none⟩ = some (.int .i64 d) := by rw [hw1]; simp
  clear hw1 c0;have c0 := hn1.me
  have HF := zh hf1; clear hf1; have HN1 := zh hn1; clear hn1;go_quiet ((go_at_call 66; exact Calls.quiet_of_same (Node_q _ _)))
  go_wp2;go_ret
  exact ⟨rfl, HN1.out, HF.out.one.drewN _⟩
theorem Hear_none (b x y : Nat) (r q d : Int) (s : Nd.NS) (w : World) (ok : Nd.Ok s) (hx : x < 6) (hy : y < 6) (hm : x ≠ s.me) (q0 : 0 ≤ q) (d0 : 0 ≤ d) (d1 : d ≤ 200) (hc : s.cost x = 0) (hn : NAt w b 146 s) :
  Calls Tryz.prog 138 #[.pointer (some ⟨b, 0, none⟩), news5 x r y q d] w (CodeFr b 146 s 6 w) := by
 have hl := hn.lt
 have h1 : isNode x = true := isNode_yes (by omega)
 have h2 : isNode y = true := isNode_yes (by omega)
 have h3 : ((x : Int) == (s.me : Int)) = false := by simp; omega
 have h4 : decide (q < 0) = false := by simpa using q0
 have h5 : decide (d < 0) = false := by simpa using d0
 have h6 : decide (200 < d) = false := by simpa using d1
 have hxi : (x : Int) < 6 := by omega
 have hyi : (y : Int) < 6 := by omega
 have hcb : (s.cost x == 0) = true := by simp [hc]
 clear hc
 have HN := zh hn; clear hn
 go_enter Tryz.func138, Tryz.ntmps138
 unfold news5
 go_wp2
 refine wp_name fun w1 hw1 => ?_
 have hf1 : Fr NoB w w1 := by rw [hw1]; exact (Fr.refl _ w).alloc _
 have hn1 := HN.out.keep hf1 (fun h => h)
 have b0 : w1.cell? ⟨w.heap.size, 0, none⟩ = some (.int .i64 x) := by rw [hw1]; simp
 have b2 : w1.cell? ⟨w.heap.size, 2, none⟩ = some (.int .i64 y) := by rw [hw1]; simp
 have b3 : w1.cell? ⟨w.heap.size, 3, none⟩ = some (.int .i64 q) := by rw [hw1]; simp
 have b4 : w1.cell? ⟨w.heap.size, 4, none⟩ = some (.int .i64 d) := by rw [hw1]; simp
 clear hw1
 have c0 := hn1.me
 have c1 := hn1.cost hx
 have g1 := hn1.hS hx hy
 have g2 := hn1.hD hx hy
 have f1 := hn1.fz (7 + x * 12 + y * 2)
 have f2 := hn1.fz (7 + x * 12 + y * 2 + 1)
 have HF := zh hf1; clear hf1; have HN1 := zh hn1; clear hn1; have HM := zh hm; clear hm; have HOk := zh ok; clear ok
 go_quiet ((go_at_call 66; exact Calls.quiet_of_same (Node_q _ _)))
 go_wp2
 go_quiet (fail)
 go_wp2
 go_ret
 exact ⟨rfl, HN1.out, (HF.out.one.drewN _).drewN _⟩
theorem Hear_ok (b x y : Nat) (r q d : Int) (s : Nd.NS) (w : World) (ok : Nd.Ok s) (hx : x < 6) (hy : y < 6) (hm : x ≠ s.me) (q0 : 0 ≤ q) (d0 : 0 ≤ d) (d1 : d ≤ 200) (hc : s.cost x ≠ 0) (hn : NAt w b 146 s) :
  Calls Tryz.prog 138 #[.pointer (some ⟨b, 0, none⟩), news5 x r y q d] w (CodeFr b 146 (Nd.hear s x y q d) 0 w) := by
 have hl := hn.lt
 have h1 : isNode x = true := isNode_yes (by omega)
 have h2 : isNode y = true := isNode_yes (by omega)
 have h3 : ((x : Int) == (s.me : Int)) = false := by simp; omega
 have h4 : decide (q < 0) = false := by simpa using q0
 have h5 : decide (d < 0) = false := by simpa using d0
 have h6 : decide (200 < d) = false := by simpa using d1
 have hxi : (x : Int) < 6 := by omega
 have hyi : (y : Int) < 6 := by omega
 have hcb : (s.cost x == 0) = false := by simp [hc]
 clear hc
 have HN := zh hn; clear hn
 go_enter Tryz.func138, Tryz.ntmps138
 unfold news5
 go_wp2
 refine wp_name fun w1 hw1 => ?_
 have hf1 : Fr NoB w w1 := by rw [hw1]; exact (Fr.refl _ w).alloc _
 have hn1 := HN.out.keep hf1 (fun h => h)
 have b0 : w1.cell? ⟨w.heap.size, 0, none⟩ = some (.int .i64 x) := by rw [hw1]; simp
 have b2 : w1.cell? ⟨w.heap.size, 2, none⟩ = some (.int .i64 y) := by rw [hw1]; simp
 have b3 : w1.cell? ⟨w.heap.size, 3, none⟩ = some (.int .i64 q) := by rw [hw1]; simp
 have b4 : w1.cell? ⟨w.heap.size, 4, none⟩ = some (.int .i64 d) := by rw [hw1]; simp
 clear hw1
 have c0 := hn1.me
 have c1 := hn1.cost hx
 have g1 := hn1.hS hx hy
 have g2 := hn1.hD hx hy
 have f1 := hn1.fz (7 + x * 12 + y * 2)
 have f2 := hn1.fz (7 + x * 12 + y * 2 + 1)
 have HF := zh hf1; clear hf1; have HN1 := zh hn1; clear hn1; have HM := zh hm; clear hm; have HOk := zh ok; clear ok
 go_quiet ((go_at_call 66; exact Calls.quiet_of_same (Node_q _ _)))
 go_wp2
 go_quiet (fail)
 go_wp2
 refine wp_name fun w2 hw2 => ?_
 have hn2 := HN1.out
 have hf2 : Fr (OneB b) w w2 := by rw [hw2]; exact (HF.out.one.drewN _).drewN _
 have hn2 : NAt w2 b 146 s := by rw [hw2]; exact HN1.out
 have b0 : w2.cell? ⟨w.heap.size, 0, none⟩ = some (.int .i64 x) := by rw [hw2]; exact b0
 have b2 : w2.cell? ⟨w.heap.size, 2, none⟩ = some (.int .i64 y) := by rw [hw2]; exact b2
 have b3 : w2.cell? ⟨w.heap.size, 3, none⟩ = some (.int .i64 q) := by rw [hw2]; exact b3
 have b4 : w2.cell? ⟨w.heap.size, 4, none⟩ = some (.int .i64 d) := by rw [hw2]; exact b4
 clear hw2 c0 c1 g1 g2 f1 f2
 have g1 := hn2.hS hx hy
 have g2 := hn2.hD hx hy
 have f1 := hn2.fz (7 + x * 12 + y * 2)
 have f2 := hn2.fz (7 + x * 12 + y * 2 + 1)
 clear HN1 HF
 have HN1 := zh hn2; clear hn2; have HF := zh hf2; clear hf2
 (refine still_tail 14 (by kernel_rfl) (by kernel_rfl) ?_; simp only [List.take_succ_cons, List.take_zero, List.drop_succ_cons, List.drop_zero]; (iterate 14 (refine wpStill_step (fun K hK => ?_); go_simp; (with_reducible refine hK _ ?_); clear hK K)); refine wpStill_nil ?_)
 go_wp2_with fail
 refine (pick_any b y _ _ (Nd.Ok.heard HOk.out x y q d q0 d0 d1) hy (World.rowIs.drew (HN1.out.setH hx hy q d))).mono ?_
 rintro e w3 ⟨rfl, hn3, hf3⟩
 have hf4 : Fr (OneB b) w w3 := ((HF.out.set1 _ _).set1 _ _).drew.trans hf3
 clear hf3 b0 b2 b3 b4 g1 g2 f1 f2
 have HN3 := zh hn3; clear hn3; have HF4 := zh hf4; clear hf4
 go_wp2
 go_ret
 exact ⟨rfl, HN3.out, HF4.out⟩
theorem Hear_any (b : Nat) (f r t q d : Int) (s : Nd.NS) (w : World) (ok : Nd.Ok s) (hn : NAt w b 146 s) :
  Calls Tryz.prog 138 #[.pointer (some ⟨b, 0, none⟩), news5 f r t q d] w (CodeFr b 146 (Nd.hearC s f t q d).1 (Nd.hearC s f t q d).2 w) := by
 by_cases h : Nd.hearBad s f t q d
 ·have e : Nd.hearC s f t q d = (s, 1) := by rw [Nd.hearC, if_pos h]
  rw [e];exact Hear_bad b f r t q d s w h hn
 have h2 := h
 simp only [Nd.hearBad] at h2
 obtain ⟨x, rfl⟩ := Int.eq_ofNat_of_zero_le (a := f) (by omega)
 obtain ⟨y, rfl⟩ := Int.eq_ofNat_of_zero_le (a := t) (by omega)
 by_cases hc : s.cost x = 0
 ·have e : Nd.hearC s x y q d = (s, 6) := by rw [Nd.hearC, if_neg h, Int.toNat_natCast, if_pos hc]
  rw [e];exact Hear_none b x y r q d s w ok (by omega) (by omega) (by omega) (by omega) (by omega) (by omega) hc hn
 have e : Nd.hearC s x y q d = (Nd.hear s x y q d, 0) := by rw [Nd.hearC, if_neg h, Int.toNat_natCast, if_neg hc, Int.toNat_natCast]
 rw [e]
 exact Hear_ok b x y r q d s w ok (by omega) (by omega) (by omega) (by omega) (by omega) (by omega) hc hn
theorem step_app {P : Program} {ops : Array Oper} {o : Oper} {a : Act} {w : World} {K : Act → World → Prop} {Q : Exit → Act → World → Prop} {E : Prop} (hgd : o.guard = none) (s x : Operand) (t e : TypeId) (size bytes : Nat) (z : Value)
  (ho : o.op = .call { callee := .builtin .append, args := #[s, x], argTypes := #[t, t] })
  (ht : P.underlying t = some (.slice e)) (hinfo : (P.info? e).map (fun i => (i.zero, i.size, i.bytes)) = some (some z, size, bytes)) (hzs : z.cells.size = size) (hsz : 0 < size)
  (base : Nat) (v : Value) (n : Nat) (xs : List Value) (hs : a.eval s = v) (hown : w.ownsRow base e size v n xs)
  (ad : Addr) (m c : Nat) (news : List Value) (hx : a.eval x = .slice (some ad) m c) (hl : news.length = m * size) (hnews : ∀ j u, news[j]? = some u → w.cell? (ad.add j) = some u) (h1 : ∀ u ∈ news, u.oneCell' = true)
  (hm : 0 < m) (h63 : n + m ≤ 2147483648) (hb : bytes ≤ 4096) (hbase : base ≤ w.heap.size)
  (h : ∀ v' w', w'.ownsRow base e size v' (n + m) (xs ++ news) → Fr (fun i => v.ownBlock = some i) w w' → K (a.put o.dst v') w') :
  if Region.wanted o (yielded ops a.tmps) = true then Oper.wp P o a w K Q else E := by
 obtain ⟨i0, hi, hz0, hz1, hz2⟩ := info_parts hinfo
 refine step_append_lies w hgd s x t ho base e i0 z size bytes ht hi hz0 hz1 hz2 hzs hsz v n xs hs hown ad m c news hx hl hnews h1 hm (by unfold maxLen; omega) ?_ hbase w.heap.size rfl ?_
 ·exact Nat.le_trans (Nat.mul_le_mul h63 hb) (by omega)
 intro g cap w' h2 h3 _ _
 exact h _ w' h2 ((Fr.refl _ _).grown h3 (fun k hk => .inl hk))
def agg6w (f : Nat → Nd.Way) : Value := .agg #[.int .i64 (f 0).seq, .int .i64 (f 0).dist, .int .i64 (f 0).hop, .int .i64 (f 1).seq, .int .i64 (f 1).dist, .int .i64 (f 1).hop, .int .i64 (f 2).seq, .int .i64 (f 2).dist, .int .i64 (f 2).hop, .int .i64 (f 3).seq, .int .i64 (f 3).dist, .int .i64 (f 3).hop, .int .i64 (f 4).seq, .int .i64 (f 4).dist, .int .i64 (f 4).hop, .int .i64 (f 5).seq, .int .i64 (f 5).dist, .int .i64 (f 5).hop]
theorem indexW_0 (f : Nat → Nd.Way) (w : World) : (Instr.index 117 (agg6w f) (.int .i64 0)).run Tryz.prog w = .ok (way3 (f 0)) w := by kernel_rfl
theorem indexW_1 (f : Nat → Nd.Way) (w : World) : (Instr.index 117 (agg6w f) (.int .i64 1)).run Tryz.prog w = .ok (way3 (f 1)) w := by kernel_rfl
theorem indexW_2 (f : Nat → Nd.Way) (w : World) : (Instr.index 117 (agg6w f) (.int .i64 2)).run Tryz.prog w = .ok (way3 (f 2)) w := by kernel_rfl
theorem indexW_3 (f : Nat → Nd.Way) (w : World) : (Instr.index 117 (agg6w f) (.int .i64 3)).run Tryz.prog w = .ok (way3 (f 3)) w := by kernel_rfl
theorem indexW_4 (f : Nat → Nd.Way) (w : World) : (Instr.index 117 (agg6w f) (.int .i64 4)).run Tryz.prog w = .ok (way3 (f 4)) w := by kernel_rfl
theorem indexW_5 (f : Nat → Nd.Way) (w : World) : (Instr.index 117 (agg6w f) (.int .i64 5)).run Tryz.prog w = .ok (way3 (f 5)) w := by kernel_rfl
theorem indexW (n : Nat) (hn : n < 6) (f : Nat → Nd.Way) (w : World) : (Instr.index 117 (agg6w f) (.int .i64 n)).run Tryz.prog w = .ok (way3 (f n)) w := by
 match n, hn with
 | 0, _ => exact indexW_0 f w
 | 1, _ => exact indexW_1 f w
 | 2, _ => exact indexW_2 f w
 | 3, _ => exact indexW_3 f w
 | 4, _ => exact indexW_4 f w
 | 5, _ => exact indexW_5 f w
def waysL (s : Nd.NS) : List Value := [.int .i64 (s.wS 0), .int .i64 (s.wD 0), .int .i64 (s.wH 0), .int .i64 (s.wS 1), .int .i64 (s.wD 1), .int .i64 (s.wH 1), .int .i64 (s.wS 2), .int .i64 (s.wD 2), .int .i64 (s.wH 2), .int .i64 (s.wS 3), .int .i64 (s.wD 3), .int .i64 (s.wH 3), .int .i64 (s.wS 4), .int .i64 (s.wD 4), .int .i64 (s.wH 4), .int .i64 (s.wS 5), .int .i64 (s.wD 5), .int .i64 (s.wH 5)]
theorem NAt.ways {w : World} {b : Nat} {t : TypeId} {s : Nd.NS} (h : NAt w b t s) : w.rangeAt b 79 (waysL s) := by
 intro j v hv
 unfold waysL at hv
 match j, hv with
 | 0, hv => simp at hv; subst hv; exact h.wS (k := 0) (by omega)
 | 1, hv => simp at hv; subst hv; exact h.wD (k := 0) (by omega)
 | 2, hv => simp at hv; subst hv; exact h.wH (k := 0) (by omega)
 | 3, hv => simp at hv; subst hv; exact h.wS (k := 1) (by omega)
 | 4, hv => simp at hv; subst hv; exact h.wD (k := 1) (by omega)
 | 5, hv => simp at hv; subst hv; exact h.wH (k := 1) (by omega)
 | 6, hv => simp at hv; subst hv; exact h.wS (k := 2) (by omega)
 | 7, hv => simp at hv; subst hv; exact h.wD (k := 2) (by omega)
 | 8, hv => simp at hv; subst hv; exact h.wH (k := 2) (by omega)
 | 9, hv => simp at hv; subst hv; exact h.wS (k := 3) (by omega)
 | 10, hv => simp at hv; subst hv; exact h.wD (k := 3) (by omega)
 | 11, hv => simp at hv; subst hv; exact h.wH (k := 3) (by omega)
 | 12, hv => simp at hv; subst hv; exact h.wS (k := 4) (by omega)
 | 13, hv => simp at hv; subst hv; exact h.wD (k := 4) (by omega)
 | 14, hv => simp at hv; subst hv; exact h.wH (k := 4) (by omega)
 | 15, hv => simp at hv; subst hv; exact h.wS (k := 5) (by omega)
 | 16, hv => simp at hv; subst hv; exact h.wD (k := 5) (by omega)
 | 17, hv => simp at hv; subst hv; exact h.wH (k := 5) (by omega)
theorem Tryz.info98 : (Tryz.prog.info? 98).map (fun i => (i.zero, i.size, i.bytes)) = some (some (.agg #[.int .i64 0, .int .i64 0, .int .i64 0, .int .i64 0, .int .i64 0]), 5, 40) := by kernel_rfl
def SlN (w : World) (base : Nat) (v : Value) (n : Nat) (xs : List Int) : Prop := w.ownsRow base 98 5 v n (xs.map (Value.int .i64))
def TellPost (s : Nd.NS) (who : Int) (w : World) (e : Ending) (w' : World) : Prop := ∃ v, e = .returned v ∧ SlN w' w.heap.size v 6 (Nd.tellL s who 6) ∧ Fr NoB w w'
def TlRel (s : Nd.NS) (who : Int) (w : World) (v i : Value) (wr : World) : Prop :=
 ∃ k : Nat, k ≤ 6 ∧ i = .int .i64 k ∧ SlN wr w.heap.size v k (Nd.tellL s who k) ∧ Fr NoB w wr
theorem Tell_any (b : Nat) (who : Int) (s : Nd.NS) (w : World) (hn : NAt w b 146 s) :
  Calls Tryz.prog 167 #[.pointer (some ⟨b, 0, none⟩), .int .i64 who] w (TellPost s who w) := by
 have HN := zh hn; clear hn
 go_enter Tryz.func167, Tryz.ntmps167
 go_wp2_with (refine wpList_load_mid rfl 117 (.tmp 10) rfl b 79 rfl (waysL s) _ (NAt.ways HN.out) Tryz.underlying117 rfl (by kernel_rfl) ?_)
 go_loopw [5, 12] (fun v i wr => TlRel s who w v i wr) (fun _ i _ => 6 - (intOf i).toNat)
 case atStart => exact ⟨0, by omega, rfl, World.ownsRow_nil _ _ _ _, Fr.refl _ _⟩
 case round =>
  obtain ⟨k, hk, rfl, ho, hf⟩ := hrel
  have HO := zh ho; clear ho; have HF := zh hf; clear hf;by_cases hk6 : k < 6
  ·have hkb : decide ((k : Int) < 6) = true := by simp; omega
   have hix := fun w => indexW k hk6 (Nd.wayOf s) w
   simp only [agg6w, way3, Nd.wayOf] at hix
   unfold waysL;have hst := Nd.tellL_succ s who k
   have HST := zh hst; clear hst;go_upto_region 5 with fail
   clear hix;refine wp_name fun w1 hw1 => ?_
   have hf1 : Fr NoB wr w1 := by rw [hw1]; exact (Fr.refl _ wr).alloc _
   have b0 : w1.cell? ⟨wr.heap.size, 0, none⟩ = some (.int .i64 (s.wS k)) := by rw [hw1]; simp
   have b1 : w1.cell? ⟨wr.heap.size, 1, none⟩ = some (.int .i64 (s.wD k)) := by rw [hw1]; simp
   have c0 := (HN.out.keep (HF.out.trans hf1) (fun h => h)).me
   have ho1 : SlN w1 w.heap.size u5 k (Nd.tellL s who k) := own_keep HO.out hf1 (fun _ _ h => h)
   have hf2 := HF.out.trans hf1
   clear hw1 hf1;have HO1 := zh ho1; clear ho1; have HF1 := zh hf2; clear hf2
   have hlb : b < w1.heap.size := by have := HN.out.lt; have := HF1.out.size; omega
   have hlr := World.block_lt_of_cell? w1 _ b0
   have key : ∀ (o : Obj) (W : World), Fr (fun i => u5.ownBlock = some i) ((w1.alloc o).drew) W → W.cell? ⟨b, 0, none⟩ = some (.int .i64 s.me) ∧ W.cell? ⟨wr.heap.size, 0, none⟩ = some (.int .i64 (s.wS k)) ∧ W.cell? ⟨wr.heap.size, 1, none⟩ = some (.int .i64 (s.wD k)) := by
    intro o W h;have hb := HN.out.lt
    have hv := oL HO.out
    have hF : Fr (fun i => u5.ownBlock = some i) w1 W := ((Fr.refl _ w1).alloc o).drew.trans h
    have n1 : ¬ u5.ownBlock = some b := fun e => by have := (hv _ e).1; omega
    have n2 : ¬ u5.ownBlock = some wr.heap.size := fun e => by have := (hv _ e).2; omega
    exact ⟨cell_fr hF c0 n1, cell_fr hF b0 n2, cell_fr hF b1 n2⟩
   have KEY := zh key; clear key
   go_region_held3 (fun W => W.cell? ⟨b, 0, none⟩ = some (.int .i64 s.me) ∧ W.cell? ⟨wr.heap.size, 0, none⟩ = some (.int .i64 (s.wS k)) ∧ W.cell? ⟨wr.heap.size, 1, none⟩ = some (.int .i64 (s.wD k)))
    (first | exact ⟨c0, b0, b1⟩ | exact KEY.out _ _ h2 | go_keep)
    ((refine step_app (by rfl) (.tmp 16) (.tmp 28) 67 98 5 40 (.agg #[.int .i64 0, .int .i64 0, .int .i64 0, .int .i64 0, .int .i64 0]) (by rfl) Tryz.underlying67 Tryz.info98 rfl (by omega) w.heap.size u5 k _ (by rfl) (World.ownsRow.drew (oA HO1.out _)) ⟨w1.heap.size, 0, none⟩ 1 1 [.int .i64 s.me, .int .i64 who, .int .i64 k, .int .i64 (s.wS k), .int .i64 (s.wD k)] (by rfl) (by rfl) (World.news_of_block (cs := #[.int .i64 s.me, .int .i64 who, .int .i64 k, .int .i64 (s.wS k), .int .i64 (s.wD k)]) (t := 98) (fr := (0, 0)) (heap_alloc_new w1 _)) (by simp [Value.oneCell']) (by omega) (by omega) (by omega) (by have := HF1.out.size; simp; omega) ?_; intro v' w2 h1 h2))
   have r2 : Fr NoB w w2 := ((HF1.out.alloc _).drew).ownB (World.ownsRow.drew (oA HO1.out _)) (Nat.le_refl _) h2
   clear h2 b0 b1 c0;have H1 := zh h1; clear h1; have R2 := zh r2; clear r2
   go_wp2;go_roundw
   case rel => exact ⟨k + 1, by omega, by go_num, by rw [HST.out]; unfold SlN; rw [List.map_append]; exact H1.out, R2.out⟩
   case measure => simp [intOf]; omega
  obtain rfl : k = 6 := by omega
  go_wp2;go_ret
  exact ⟨_, rfl, HO.out, HF.out⟩
theorem RBetter_q (a b c d : Int) (w : World) :
  Calls Tryz.prog 161 #[.int .i64 a, .int .i64 b, .int .i64 c, .int .i64 d] w fun e w' => e = .returned (.bool (Nd.betB a b c d)) ∧ w' = w :=
 (RBetter_any a b c d w).mono fun _ _ h => ⟨h.1, h.2.symm⟩
def SAt (w : World) (p : Nat) (q d : Int) : Prop := w.cell? ⟨p, 0, none⟩ = some (.int .i64 q) ∧ w.cell? ⟨p, 1, none⟩ = some (.int .i64 d)
theorem SAt.keep {S : Nat → Prop} {w w' : World} {p : Nat} {q d : Int} (h : SAt w p q d) (hf : Fr S w w') (hb : ¬ S p) : SAt w' p q d := ⟨cell_fr hf h.1 hb, cell_fr hf h.2 hb⟩
theorem SAt.o3 {w : World} {p r : Nat} {q d : Int} (h : SAt w p q d) (hp : p ≠ r) (u v x : Value) {n : Nat} : SAt (((((w.drewN n).drew).setCell ⟨r, 0, none⟩ u).setCell ⟨r, 1, none⟩ v).setCell ⟨r, 2, none⟩ x) p q d := by
 have e : Fr (OneB r) w (((((w.drewN n).drew).setCell ⟨r, 0, none⟩ u).setCell ⟨r, 1, none⟩ v).setCell ⟨r, 2, none⟩ x) := (((((Fr.refl _ w).drewN n).drew).set1 _ _).set1 _ _).set1 _ _
 exact h.keep e (fun h => hp h)
theorem SAt.o3' {w : World} {p r : Nat} {q d : Int} (h : SAt w p q d) (hp : p ≠ r) (a b c : Nat) (u v x : Value) : SAt ((((w.setCell ⟨r, a, none⟩ u).setCell ⟨r, b, none⟩ v).setCell ⟨r, c, none⟩ x).drew) p q d := by
 have e : Fr (OneB r) w ((((w.setCell ⟨r, a, none⟩ u).setCell ⟨r, b, none⟩ v).setCell ⟨r, c, none⟩ x).drew) := ((((Fr.refl _ w).set1 _ _).set1 _ _).set1 _ _).drew
 exact h.keep e (fun h => hp h)
def LkRel (b : Nat) (s : Nd.NS) (tn p r : Nat) (w : World) (i : Value) (wr : World) : Prop :=
 ∃ m : Nat, m ≤ 6 ∧ i = .int .i64 (5 - (m : Int)) ∧ NAt wr b 119 s ∧ SAt wr p (s.bS tn) (s.bD tn) ∧ WAt wr r (Nd.chooseR s tn m) ∧ Fr NoB w wr
theorem Nd.chooseR_hit (s : Nd.NS) (dst m k : Nat) (hk : 5 - m = k) (h : Nd.may s k dst = true ∧ ((Nd.chooseR s dst m).hop = -1 ∨ Nd.betB (Nd.chooseR s dst m).seq (Nd.chooseR s dst m).dist (s.hS k dst) (s.hD k dst + s.cost k) = false)) : Nd.chooseR s dst (m + 1) = Nd.key s dst k := by
 subst hk; rw [Nd.chooseR, if_pos h]
theorem Nd.chooseR_miss (s : Nd.NS) (dst m k : Nat) (hk : 5 - m = k) (h : ¬ (Nd.may s k dst = true ∧ ((Nd.chooseR s dst m).hop = -1 ∨ Nd.betB (Nd.chooseR s dst m).seq (Nd.chooseR s dst m).dist (s.hS k dst) (s.hD k dst + s.cost k) = false))) : Nd.chooseR s dst (m + 1) = Nd.chooseR s dst m := by
 subst hk; rw [Nd.chooseR, if_neg h]
theorem look_any (b tn : Nat) (s : Nd.NS) (w : World) (ok : Nd.Ok s) (ht : tn < 6) (hn : NAt w b 119 s) :
  Calls Tryz.prog 128 #[.pointer (some ⟨b, 0, none⟩), .int .i64 tn] w (NilFr b 119 (Nd.pick s tn) w) := by
 have hm := ok.me
 have c0 := hn.me
 by_cases hme : tn = s.me
 ·have hb : ((tn : Int) == (s.me : Int)) = true := by simp [hme]
  have hp : Nd.pick s tn = s := by rw [Nd.pick, if_pos hme]
  have HP := zh hp; clear hp; have HN := zh hn; clear hn; have HME := zh hme; clear hme;go_enter Tryz.func128, Tryz.ntmps128
  go_wp2;refine bodyPost_end (results_none rfl _ _ _) rfl ?_
  exact ⟨rfl, by rw [HP.out]; exact HN.out, Fr.refl _ _⟩
 have hb : ((tn : Int) == (s.me : Int)) = false := by simp; omega
 have hp : Nd.pick s tn = Nd.lay s tn (Nd.chooseR s tn 6) := by rw [Nd.pick, if_neg hme, Nd.chooseR_eq]
 have c1 := hn.bS ht
 have c2 := hn.bD ht
 have hl := hn.lt
 have HP := zh hp; clear hp; have HN := zh hn; clear hn; have HME := zh hme; clear hme; have HOk := zh ok; clear ok
 go_enter Tryz.func128, Tryz.ntmps128
 go_wp2
 refine wp_name fun w1 hw1 => ?_
 have hf1 : Fr NoB w w1 := by rw [hw1]; exact ((Fr.refl _ w).alloc _).alloc _
 have hs1 : SAt w1 w.heap.size (s.bS tn) (s.bD tn) := by rw [hw1]; exact ⟨by simp, by simp⟩
 have hr1 : WAt w1 (w.heap.size + 1) (Nd.none s tn) := by
  rw [hw1];have := WAt.new (w.alloc (Obj.cells #[.int .i64 (s.bS tn), .int .i64 (s.bD tn)] 114)) (s.bS tn) 200 (-1)
  simp at this
  exact this
 have hn1 := HN.out.keep hf1 (fun h => h)
 clear hw1 c0 c1 c2 hb
 have HF1 := zh hf1; clear hf1; have HR1 := zh hr1; clear hr1; have HN1 := zh hn1; clear hn1; have HS1 := zh hs1; clear hs1
 go_loopw [6] (fun i wr => LkRel b s tn w.heap.size (w.heap.size + 1) w i wr) (fun i _ => (intOf i + 1).toNat)
 case atStart => exact ⟨0, by omega, rfl, HN1.out, HS1.out, HR1.out, HF1.out⟩
 case round =>
  clear HF1 HR1 HN1 HS1;obtain ⟨m, hm6, rfl, hn, hs, hr, hf⟩ := hrel
  have HN1 := zh hn; clear hn; have HR1 := zh hr; clear hr; have HF1 := zh hf; clear hf; have HS1 := zh hs; clear hs;by_cases hk6 : m < 6
  ·obtain ⟨k, hk⟩ : ∃ k : Nat, 5 - m = k := ⟨_, rfl⟩
   have hkm : (5 : Int) - (m : Int) = (k : Int) := by omega
   have hk6' : k < 6 := by omega
   rw [hkm];have kc := HOk.out.cost k hk6'
   have kd := HOk.out.hD k tn hk6' ht
   have g1 := HN1.out.hS hk6' ht
   have g2 := HN1.out.hD hk6' ht
   have hl2 := HN1.out.lt
   have HK := zh hk; clear hk; have HKM := zh hkm; clear hkm;go_wp2
   refine wp_name fun w3 hw3 => ?_
   have b0 : w3.cell? ⟨wr.heap.size, 0, none⟩ = some (.int .i64 (s.hS k tn)) := by rw [hw3]; simp
   have b1 : w3.cell? ⟨wr.heap.size, 1, none⟩ = some (.int .i64 (s.hD k tn)) := by rw [hw3]; simp
   have hf : Fr NoB wr w3 := by rw [hw3]; exact (Fr.refl _ _).alloc _
   have hn3 := HN1.out.keep hf (fun h => h)
   have hr3 := HR1.out.keep hf (fun h => h)
   have hs3 := HS1.out.keep hf (fun h => h)
   have hf3 := HF1.out.trans hf
   have hne : b ≠ w.heap.size + 1 := by omega
   have hnr : w.heap.size ≠ w.heap.size + 1 := by omega
   clear hw3 g1 g2 hl2 hf;have d0 := hr3.c0
   have d1 := hr3.c1
   have d2 := hr3.c2
   have f0 := hr3.fz 0
   have f1 := hr3.fz 1
   have f2 := hr3.fz 2
   have e0 := hn3.cost hk6'
   have q0 := hs3.1
   have q1 := hs3.2
   have hsum := IntWalk.i64_in (s.hD k tn + s.cost k) (by omega)
   have hki : (k : Int) < 6 := by omega
   have HN3 := zh hn3; clear hn3; have HR3 := zh hr3; clear hr3; have HS3 := zh hs3; clear hs3; have HF3 := zh hf3; clear hf3; have HNE := zh hne; clear hne; have HNR := zh hnr; clear hnr;by_cases hc : s.cost k = 0
   ·have hb : (s.cost k == 0) = true := by simp [hc]
    have hst := Nd.chooseR_miss s tn m k HK.out (fun h => by have := h.1; simp [Nd.may, hc] at this)
    have HST := zh hst; clear hst; have HC := zh hc; clear hc;go_quiet ((go_at_call 161; exact Calls.quiet_of_same (RBetter_q _ _ _ _ _)))
    go_wp2;go_roundw
    case rel => exact ⟨m + 1, by omega, by have := HKM.out; simp only [Value.int.injEq, true_and]; omega, HN3.out, HS3.out, by rw [HST.out]; exact HR3.out, HF3.out.drewN _⟩
    case measure => have := HKM.out; (simp [intOf] <;> omega)
   have hb : (s.cost k == 0) = false := by simp [hc]
   have HC := zh hc; clear hc;by_cases hd : 200 ≤ s.hD k tn + s.cost k
   ·have hst := Nd.chooseR_miss s tn m k HK.out (fun h => by have h1 := h.1; simp only [Nd.may, Bool.and_eq_true, decide_eq_true_eq] at h1; omega)
    have hdb : decide (200 ≤ s.hD k tn + s.cost k) = true := by simpa using hd
    have HST := zh hst; clear hst; have HD := zh hd; clear hd;go_quiet ((go_at_call 161; exact Calls.quiet_of_same (RBetter_q _ _ _ _ _)))
    go_wp2;go_roundw
    case rel => exact ⟨m + 1, by omega, by have := HKM.out; simp only [Value.int.injEq, true_and]; omega, HN3.out, HS3.out, by rw [HST.out]; exact HR3.out, HF3.out.drewN _⟩
    case measure => have := HKM.out; (simp [intOf] <;> omega)
   have hdb : decide (200 ≤ s.hD k tn + s.cost k) = false := by simpa using hd
   have hmay : Nd.may s k tn = Nd.betB (s.hS k tn) (s.hD k tn) (s.bS tn) (s.bD tn) := by
    have h1 : 0 < s.cost k := by have := HC.out; omega
    have h2 : s.hD k tn + s.cost k < 200 := by omega
    simp [Nd.may, h1, h2]
   have HM := zh hmay; clear hmay; have HD := zh hd; clear hd;cases hbt : Nd.betB (s.hS k tn) (s.hD k tn) (s.bS tn) (s.bD tn)
   ·have hst := Nd.chooseR_miss s tn m k HK.out (fun h => by have h1 := h.1; rw [HM.out, hbt] at h1; cases h1)
    have HST := zh hst; clear hst;go_quiet ((go_at_call 161; exact Calls.quiet_of_same (RBetter_q _ _ _ _ _)))
    go_wp2;go_roundw
    case rel => exact ⟨m + 1, by omega, by have := HKM.out; simp only [Value.int.injEq, true_and]; omega, HN3.out, HS3.out, by rw [HST.out]; exact HR3.out, HF3.out.drewN _⟩
    case measure => have := HKM.out; (simp [intOf] <;> omega)
   have hmt : Nd.may s k tn = true := by rw [HM.out, hbt]
   have HMT := zh hmt; clear hmt;go_quiet ((go_at_call 161; exact Calls.quiet_of_same (RBetter_q _ _ _ _ _)))
   go_wp2;refine wp_name fun w4 hw4 => ?_
   have hn4 : NAt w4 b 119 s := by rw [hw4]; exact HN3.out
   have hr4 : WAt w4 (w.heap.size + 1) (Nd.chooseR s tn m) := by rw [hw4]; exact HR3.out
   have hs4 : SAt w4 w.heap.size (s.bS tn) (s.bD tn) := by rw [hw4]; exact HS3.out
   have hf4 : Fr NoB w w4 := by rw [hw4]; exact HF3.out.drewN _
   have b0 : w4.cell? ⟨wr.heap.size, 0, none⟩ = some (.int .i64 (s.hS k tn)) := by rw [hw4]; exact b0
   have b1 : w4.cell? ⟨wr.heap.size, 1, none⟩ = some (.int .i64 (s.hD k tn)) := by rw [hw4]; exact b1
   clear hw4 d0 d1 d2 f0 f1 f2 e0 q0 q1;have d0 := hr4.c0
   have d1 := hr4.c1
   have d2 := hr4.c2
   have f0 := hr4.fz 0
   have f1 := hr4.fz 1
   have f2 := hr4.fz 2
   have e0 := hn4.cost hk6'
   clear HN3 HR3 HS3 HF3;have HN3 := zh hn4; clear hn4; have HR3 := zh hr4; clear hr4; have HS3 := zh hs4; clear hs4; have HF3 := zh hf4; clear hf4
   clear hbt hdb hb;by_cases hx : (Nd.chooseR s tn m).hop = -1
   ·have hst := Nd.chooseR_hit s tn m k HK.out ⟨HMT.out, .inl hx⟩
    have hb : ((Nd.chooseR s tn m).hop == -1) = true := by simp [hx]
    have HST := zh hst; clear hst; have HX := zh hx; clear hx;go_quiet ((go_at_call 161; exact Calls.quiet_of_same (RBetter_q _ _ _ _ _)))
    go_wp2;(refine still_tail 13 (by kernel_rfl) (by kernel_rfl) ?_; simp only [List.take_succ_cons, List.take_zero, List.drop_succ_cons, List.drop_zero]; (iterate 13 (refine wpStill_step (fun K hK => ?_); go_simp; (with_reducible refine hK _ ?_); clear hK K)); refine wpStill_nil ?_)
    go_wp2;go_roundw
    case rel => exact ⟨m + 1, by omega, by have := HKM.out; simp only [Value.int.injEq, true_and]; omega, ((NAt.other (NAt.other (NAt.other (HN3.out : NAt ((w4.drewN 0).drew) b _ s) HNE.out 0 _) HNE.out 1 _) HNE.out 2 _)), SAt.o3 HS3.out HNR.out _ _ _, by rw [HST.out]; exact WAt.set (HR3.out : WAt ((w4.drewN 0).drew) _ _) _ _ _, (((HF3.out.drewN _).drew.setNew (Nat.le_succ _) 0 _).setNew (Nat.le_succ _) 1 _).setNew (Nat.le_succ _) 2 _⟩
    case measure => have := HKM.out; (simp [intOf] <;> omega)
   have hb : ((Nd.chooseR s tn m).hop == -1) = false := by simp [hx]
   have HX := zh hx; clear hx;cases hbt : Nd.betB (Nd.chooseR s tn m).seq (Nd.chooseR s tn m).dist (s.hS k tn) (s.hD k tn + s.cost k)
   ·have hst := Nd.chooseR_hit s tn m k HK.out ⟨HMT.out, .inr hbt⟩
    have HST := zh hst; clear hst;go_quiet ((go_at_call 161; exact Calls.quiet_of_same (RBetter_q _ _ _ _ _)))
    go_wp2;(refine still_tail 13 (by kernel_rfl) (by kernel_rfl) ?_; simp only [List.take_succ_cons, List.take_zero, List.drop_succ_cons, List.drop_zero]; (iterate 13 (refine wpStill_step (fun K hK => ?_); go_simp; (with_reducible refine hK _ ?_); clear hK K)); refine wpStill_nil ?_)
    go_wp2;go_roundw
    case rel => exact ⟨m + 1, by omega, by have := HKM.out; simp only [Value.int.injEq, true_and]; omega, ((NAt.other (NAt.other (NAt.other (HN3.out : NAt ((w4.drewN 0).drew) b _ s) HNE.out 0 _) HNE.out 1 _) HNE.out 2 _)), SAt.o3 HS3.out HNR.out _ _ _, by rw [HST.out]; exact WAt.set (HR3.out : WAt ((w4.drewN 0).drew) _ _) _ _ _, (((HF3.out.drewN _).drew.setNew (Nat.le_succ _) 0 _).setNew (Nat.le_succ _) 1 _).setNew (Nat.le_succ _) 2 _⟩
    case measure => have := HKM.out; (simp [intOf] <;> omega)
   have hst := Nd.chooseR_miss s tn m k HK.out (by
    rintro ⟨_, h | h⟩
    ·exact HX.out h
    rw [hbt] at h; cases h)
   have HST := zh hst; clear hst;go_quiet ((go_at_call 161; exact Calls.quiet_of_same (RBetter_q _ _ _ _ _)))
   go_wp2;go_roundw
   case rel => exact ⟨m + 1, by omega, by have := HKM.out; simp only [Value.int.injEq, true_and]; omega, HN3.out, HS3.out, by rw [HST.out]; exact HR3.out, HF3.out.drewN _⟩
   case measure => have := HKM.out; (simp [intOf] <;> omega)
  obtain rfl : m = 6 := by omega
  have hti : (tn : Int) < 6 := by omega
  have hneg : (5 : Int) - ((6 : Nat) : Int) = -1 := by omega
  rw [hneg];clear hneg
  have d0 := HR1.out.c0
  have d1 := HR1.out.c1
  have d2 := HR1.out.c2
  have g0 := HN1.out.wS ht
  have g1 := HN1.out.wD ht
  have g2 := HN1.out.wH ht
  have f0 := HN1.out.fz (79 + tn * 3)
  have f1 := HN1.out.fz (79 + tn * 3 + 1)
  have f2 := HN1.out.fz (79 + tn * 3 + 2)
  go_wp2;(refine still_tail 6 (by kernel_rfl) (by kernel_rfl) ?_; simp only [List.take_succ_cons, List.take_zero, List.drop_succ_cons, List.drop_zero]; (iterate 6 (refine wpStill_step (fun K hK => ?_); go_simp; (with_reducible refine hK _ ?_); clear hK K)); refine wpStill_nil ?_)
  go_upto_region 11 with fail
  have hne : w.heap.size + 1 ≠ b := by omega
  refine wp_name fun w2 hw2 => ?_
  have hn2 : NAt w2 b 119 { s with wS := Nd.up s.wS tn (Nd.chooseR s tn 6).seq, wD := Nd.up s.wD tn (Nd.chooseR s tn 6).dist, wH := Nd.up s.wH tn (Nd.chooseR s tn 6).hop } := by
   rw [hw2];exact World.rowIs.drew (HN1.out.setW ht _ _ _)
  have hr2 : WAt w2 (w.heap.size + 1) (Nd.chooseR s tn 6) := by
   rw [hw2];exact World.rowIs.drew (((HR1.out.other hne _ _).other hne _ _).other hne _ _)
  have hs2 : SAt w2 w.heap.size (s.bS tn) (s.bD tn) := by
   rw [hw2];exact SAt.o3' HS1.out (by omega) _ _ _ _ _ _
  have hf2 : Fr (OneB b) w w2 := by
   rw [hw2];exact (((HF1.out.one.set1 _ _).set1 _ _).set1 _ _).drew
  clear hw2 d0 d1 d2 g0 g1 g2 f0 f1 f2 HR1 HN1 HF1 HS1;have d0 := hr2.c0
  have d1 := hr2.c1
  have d2 := hr2.c2
  have q0 := hs2.1
  have q1 := hs2.2
  have e0 := hn2.bS ht
  have e1 := hn2.bD ht
  have f0 := hn2.fz (97 + tn * 2)
  have f1 := hn2.fz (97 + tn * 2 + 1)
  have HN2 := zh hn2; clear hn2; have HF2 := zh hf2; clear hf2;clear hr2 hs2
  by_cases hx : (Nd.chooseR s tn 6).hop = -1
  ·have hb : ((Nd.chooseR s tn 6).hop != -1) = false := by simp [hx]
   have hy := Nd.lay_keep s tn (Nd.chooseR s tn 6) (fun h => h.1 hx)
   have HY := zh hy; clear hy; have HX := zh hx; clear hx;go_wp2
   refine bodyPost_end (results_none rfl _ _ _) rfl ?_
   exact ⟨rfl, by rw [HP.out, HY.out]; exact HN2.out, HF2.out⟩
  have hb : ((Nd.chooseR s tn 6).hop != -1) = true := by simp [hx]
  have HX := zh hx; clear hx;go_wp2_with fail
  refine (RBetter_any _ _ _ _ _).mono ?_; rintro e w' ⟨rfl, rfl⟩
  cases hbt : Nd.betB (Nd.chooseR s tn 6).seq (Nd.chooseR s tn 6).dist (s.bS tn) (s.bD tn)
  ·have hy := Nd.lay_keep s tn (Nd.chooseR s tn 6) (fun h => by rw [hbt] at h; cases h.2)
   have HY := zh hy; clear hy; have HB := zh hbt; clear hbt;go_wp2
   refine bodyPost_end (results_none rfl _ _ _) rfl ?_
   exact ⟨rfl, by rw [HP.out, HY.out]; exact HN2.out, HF2.out⟩
  have hy := Nd.lay_best s tn (Nd.chooseR s tn 6) ⟨HX.out, hbt⟩
  have HY := zh hy; clear hy; have HB := zh hbt; clear hbt;go_wp2
  (refine still_tail 10 (by kernel_rfl) (by kernel_rfl) ?_; simp only [List.take_succ_cons, List.take_zero, List.drop_succ_cons, List.drop_zero]; (iterate 10 (refine wpStill_step (fun K hK => ?_); go_simp; (with_reducible refine hK _ ?_); clear hK K)); refine wpStill_nil ?_)
  go_wp2;refine bodyPost_end (results_none rfl _ _ _) rfl ?_
  exact ⟨rfl, by rw [HP.out, HY.out]; exact NAt.setB (w := w2.drew) HN2.out ht _ _, (HF2.out.drew.set1 _ _).set1 _ _⟩
end Go.Proofs.YtffoilacaffdgaaGreatDoor
namespace Go.Proofs.YtffoilacaffdgaaGreatDoor.Nd
structure Own (s : NS) : Prop where
 d : s.wD s.me = 0
 h : s.wH s.me = s.me
theorem pick_me (s : NS) (k : Nat) : (pick s k).me = s.me := by unfold pick; split <;> rfl
theorem Own.pick {s : NS} (h : Own s) (k : Nat) : Own (pick s k) := by
 unfold Nd.pick
 split
 ·exact h
 rename_i hk
 have e : s.me ≠ k := fun e => hk e.symm
 exact ⟨by show up s.wD k _ s.me = 0; rw [up_other _ _ _ _ e]; exact h.d, by show up s.wH k _ s.me = s.me; rw [up_other _ _ _ _ e]; exact h.h⟩
theorem Own.all {s : NS} (h : Own s) : ∀ k, Own (all s k)
 | 0 => h
 | k + 1 => (Own.all h k).pick k
theorem Own.link {s : NS} (h : Own s) (who : Nat) (c : Int) : Own (link s who c) := by
 unfold Nd.link
 dsimp only
 split
 ·exact Own.all (s := forget { s with cost := up s.cost who c } who) ⟨h.d, h.h⟩ 6
 exact Own.all (s := { s with cost := up s.cost who c }) ⟨h.d, h.h⟩ 6
theorem Own.hear {s : NS} (h : Own s) (src dst : Nat) (q d : Int) : Own (hear s src dst q d) := Own.pick (s := { s with hS := up2 s.hS src dst q, hD := up2 s.hD src dst d }) ⟨h.d, h.h⟩ dst
theorem Own.tick (s : NS) : Own (tick s) := ⟨by simp [Nd.tick, Nd.own], by simp [Nd.tick, Nd.own]⟩
theorem Own.fresh (me : Nat) : Own (fresh me) := ⟨by simp [Nd.fresh, Nd.own], by simp [Nd.fresh, Nd.own]⟩
theorem Own.linkC {s : NS} (h : Own s) (who c : Int) : Own (linkC s who c).1 := by
 unfold Nd.linkC; split
 ·exact h
 exact h.link _ c
theorem Own.hearC {s : NS} (h : Own s) (f t q d : Int) : Own (hearC s f t q d).1 := by
 unfold Nd.hearC; split
 ·exact h
 split
 ·exact h
 exact h.hear _ _ q d
theorem up_id {f : Nat → Int} {i : Nat} {v : Int} (h : f i = v) : up f i v = f := by
 funext j; unfold up; split
 ·rename_i e; rw [e]; exact h.symm
 rfl
theorem tick_ref {s : NS} (h : Own s) : { s with wS := up s.wS s.me (s.wS s.me + 1), bS := up s.bS s.me (s.wS s.me + 1), bD := up s.bD s.me 0 } = tick s := by
 have e1 : up s.wD s.me 0 = s.wD := up_id h.d
 have e2 : up s.wH s.me s.me = s.wH := up_id h.h
 simp only [tick, own, up_same, e1, e2]
theorem fresh_ref (me : Nat) : { newK me 6 with wS := up (newK me 6).wS me 0, wD := up (newK me 6).wD me 0, wH := up (newK me 6).wH me me, bS := up (newK me 6).bS me 0, bD := up (newK me 6).bD me 0 } = fresh me := by
 have e1 : up (newK me 6).wS me 0 = (newK me 6).wS := up_id rfl
 rw [e1]
 rfl
end Go.Proofs.YtffoilacaffdgaaGreatDoor.Nd
