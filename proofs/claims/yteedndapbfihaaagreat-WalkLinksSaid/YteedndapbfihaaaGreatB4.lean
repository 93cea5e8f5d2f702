/- A node's state and what its operations do to it, without any program: the program's way of choosing and the reference's come to the same; what they keep. -/
namespace Go.Proofs.YteedndapbfihaaaGreat.Nd

/-- Is one age and length better than another? -/
def betB (a b c d : Int) : Bool := decide (c < a ∨ (a = c ∧ b < d))
theorem betB_iff {a b c d : Int} : betB a b c d = true ↔ c < a ∨ (a = c ∧ b < d) := by simp [betB]
theorem betB_no {a b c d : Int} : betB a b c d = false ↔ ¬ (c < a ∨ (a = c ∧ b < d)) := by simp only [betB, decide_eq_false_iff_not]

def up (f : Nat → Int) (i : Nat) (v : Int) : Nat → Int := fun j => if j = i then v else f j
def up2 (f : Nat → Nat → Int) (i k : Nat) (v : Int) : Nat → Nat → Int := fun a b => if a = i ∧ b = k then v else f a b
@[simp] theorem up_same (f : Nat → Int) (i : Nat) (v : Int) : up f i v i = v := by simp [up]
theorem up_other (f : Nat → Int) (i j : Nat) (v : Int) (h : j ≠ i) : up f i v j = f j := by simp [up, h]

/-- What a node knows. -/
structure NS where
  me : Nat
  cost : Nat → Int
  hS : Nat → Nat → Int
  hD : Nat → Nat → Int
  wS : Nat → Int
  wD : Nat → Int
  wH : Nat → Int
  bS : Nat → Int
  bD : Nat → Int

/-- Its 109 cells. -/
def flat (s : NS) (j : Nat) : Int :=
  if j = 0 then (s.me : Int) else if j < 7 then s.cost (j - 1) else
  if j < 79 then (if (j - 7) % 2 = 0 then s.hS ((j - 7) / 12) ((j - 7) % 12 / 2) else s.hD ((j - 7) / 12) ((j - 7) % 12 / 2)) else
  if j < 97 then (if (j - 79) % 3 = 0 then s.wS ((j - 79) / 3) else if (j - 79) % 3 = 1 then s.wD ((j - 79) / 3) else s.wH ((j - 79) / 3)) else
  (if (j - 97) % 2 = 0 then s.bS ((j - 97) / 2) else s.bD ((j - 97) / 2))

theorem flat_me (s : NS) : flat s 0 = s.me := rfl
theorem flat_cost (s : NS) {k : Nat} (hk : k < 6) : flat s (1 + k) = s.cost k := by
  unfold flat
  rw [if_neg (by omega), if_pos (by omega), show 1 + k - 1 = k from by omega]
theorem flat_hS (s : NS) {i k : Nat} (hi : i < 6) (hk : k < 6) : flat s (7 + i * 12 + k * 2) = s.hS i k := by
  unfold flat
  rw [if_neg (by omega), if_neg (by omega), if_pos (by omega), if_pos (by omega), show (7 + i * 12 + k * 2 - 7) / 12 = i from by omega, show (7 + i * 12 + k * 2 - 7) % 12 / 2 = k from by omega]
theorem flat_hD (s : NS) {i k : Nat} (hi : i < 6) (hk : k < 6) : flat s (7 + i * 12 + k * 2 + 1) = s.hD i k := by
  unfold flat
  rw [if_neg (by omega), if_neg (by omega), if_pos (by omega), if_neg (by omega), show (7 + i * 12 + k * 2 + 1 - 7) / 12 = i from by omega, show (7 + i * 12 + k * 2 + 1 - 7) % 12 / 2 = k from by omega]
theorem flat_wS (s : NS) {k : Nat} (hk : k < 6) : flat s (79 + k * 3) = s.wS k := by
  unfold flat
  rw [if_neg (by omega), if_neg (by omega), if_neg (by omega), if_pos (by omega), if_pos (by omega), show (79 + k * 3 - 79) / 3 = k from by omega]
theorem flat_wD (s : NS) {k : Nat} (hk : k < 6) : flat s (79 + k * 3 + 1) = s.wD k := by
  unfold flat
  rw [if_neg (by omega), if_neg (by omega), if_neg (by omega), if_pos (by omega), if_neg (by omega), if_pos (by omega), show (79 + k * 3 + 1 - 79) / 3 = k from by omega]
theorem flat_wH (s : NS) {k : Nat} (hk : k < 6) : flat s (79 + k * 3 + 2) = s.wH k := by
  unfold flat
  rw [if_neg (by omega), if_neg (by omega), if_neg (by omega), if_pos (by omega), if_neg (by omega), if_neg (by omega), show (79 + k * 3 + 2 - 79) / 3 = k from by omega]
theorem flat_bS (s : NS) {k : Nat} (_hk : k < 6) : flat s (97 + k * 2) = s.bS k := by
  unfold flat
  rw [if_neg (by omega), if_neg (by omega), if_neg (by omega), if_neg (by omega), if_pos (by omega), show (97 + k * 2 - 97) / 2 = k from by omega]
theorem flat_bD (s : NS) {k : Nat} (_hk : k < 6) : flat s (97 + k * 2 + 1) = s.bD k := by
  unfold flat
  rw [if_neg (by omega), if_neg (by omega), if_neg (by omega), if_neg (by omega), if_neg (by omega), show (97 + k * 2 + 1 - 97) / 2 = k from by omega]

/- What one cell's store is. -/
theorem set_cost (s : NS) {k : Nat} (hk : k < 6) (v : Int) (j : Nat) : flat { s with cost := up s.cost k v } j = if j = 1 + k then v else flat s j := by
  by_cases e : j = 1 + k
  · subst e; rw [if_pos rfl, flat_cost _ hk]; exact up_same _ _ _
  · rw [if_neg e]
    unfold flat
    by_cases h0 : j = 0
    · simp [h0]
    · by_cases h1 : j < 7
      · simp only [if_neg h0, if_pos h1]
        exact up_other _ _ _ _ (by omega)
      · simp only [if_neg h0, if_neg h1]
theorem set_hS (s : NS) {i k : Nat} (hi : i < 6) (hk : k < 6) (v : Int) (j : Nat) (hj : j < 109) : flat { s with hS := up2 s.hS i k v } j = if j = 7 + i * 12 + k * 2 then v else flat s j := by
  by_cases e : j = 7 + i * 12 + k * 2
  · subst e; rw [if_pos rfl, flat_hS _ hi hk]; simp [up2]
  · rw [if_neg e]
    unfold flat
    by_cases h0 : j = 0
    · simp [h0]
    · by_cases h1 : j < 7
      · simp only [if_neg h0, if_pos h1]
      · by_cases h2 : j < 79
        · by_cases h3 : (j - 7) % 2 = 0
          · simp only [if_neg h0, if_neg h1, if_pos h2, if_pos h3, up2]
            rw [if_neg (by omega)]
          · simp only [if_neg h0, if_neg h1, if_pos h2, if_neg h3]
        · simp only [if_neg h0, if_neg h1, if_neg h2]
theorem set_hD (s : NS) {i k : Nat} (hi : i < 6) (hk : k < 6) (v : Int) (j : Nat) (hj : j < 109) : flat { s with hD := up2 s.hD i k v } j = if j = 7 + i * 12 + k * 2 + 1 then v else flat s j := by
  by_cases e : j = 7 + i * 12 + k * 2 + 1
  · subst e; rw [if_pos rfl, flat_hD _ hi hk]; simp [up2]
  · rw [if_neg e]
    unfold flat
    by_cases h0 : j = 0
    · simp [h0]
    · by_cases h1 : j < 7
      · simp only [if_neg h0, if_pos h1]
      · by_cases h2 : j < 79
        · by_cases h3 : (j - 7) % 2 = 0
          · simp only [if_neg h0, if_neg h1, if_pos h2, if_pos h3]
          · simp only [if_neg h0, if_neg h1, if_pos h2, if_neg h3, up2]
            rw [if_neg (by omega)]
        · simp only [if_neg h0, if_neg h1, if_neg h2]
theorem set_wS (s : NS) {k : Nat} (hk : k < 6) (v : Int) (j : Nat) : flat { s with wS := up s.wS k v } j = if j = 79 + k * 3 then v else flat s j := by
  by_cases e : j = 79 + k * 3
  · subst e; rw [if_pos rfl, flat_wS _ hk]; exact up_same _ _ _
  · rw [if_neg e]
    unfold flat
    by_cases h0 : j = 0
    · simp [h0]
    · by_cases h1 : j < 7
      · simp only [if_neg h0, if_pos h1]
      · by_cases h2 : j < 79
        · simp only [if_neg h0, if_neg h1, if_pos h2]
        · by_cases h3 : j < 97
          · by_cases h4 : (j - 79) % 3 = 0
            · simp only [if_neg h0, if_neg h1, if_neg h2, if_pos h3, if_pos h4]
              exact up_other _ _ _ _ (by omega)
            · simp only [if_neg h0, if_neg h1, if_neg h2, if_pos h3, if_neg h4]
          · simp only [if_neg h0, if_neg h1, if_neg h2, if_neg h3]
theorem set_wD (s : NS) {k : Nat} (hk : k < 6) (v : Int) (j : Nat) : flat { s with wD := up s.wD k v } j = if j = 79 + k * 3 + 1 then v else flat s j := by
  by_cases e : j = 79 + k * 3 + 1
  · subst e; rw [if_pos rfl, flat_wD _ hk]; exact up_same _ _ _
  · rw [if_neg e]
    unfold flat
    by_cases h0 : j = 0
    · simp [h0]
    · by_cases h1 : j < 7
      · simp only [if_neg h0, if_pos h1]
      · by_cases h2 : j < 79
        · simp only [if_neg h0, if_neg h1, if_pos h2]
        · by_cases h3 : j < 97
          · by_cases h4 : (j - 79) % 3 = 0
            · simp only [if_neg h0, if_neg h1, if_neg h2, if_pos h3, if_pos h4]
            · by_cases h5 : (j - 79) % 3 = 1
              · simp only [if_neg h0, if_neg h1, if_neg h2, if_pos h3, if_neg h4, if_pos h5]
                exact up_other _ _ _ _ (by omega)
              · simp only [if_neg h0, if_neg h1, if_neg h2, if_pos h3, if_neg h4, if_neg h5]
          · simp only [if_neg h0, if_neg h1, if_neg h2, if_neg h3]
theorem set_wH (s : NS) {k : Nat} (hk : k < 6) (v : Int) (j : Nat) : flat { s with wH := up s.wH k v } j = if j = 79 + k * 3 + 2 then v else flat s j := by
  by_cases e : j = 79 + k * 3 + 2
  · subst e; rw [if_pos rfl, flat_wH _ hk]; exact up_same _ _ _
  · rw [if_neg e]
    unfold flat
    by_cases h0 : j = 0
    · simp [h0]
    · by_cases h1 : j < 7
      · simp only [if_neg h0, if_pos h1]
      · by_cases h2 : j < 79
        · simp only [if_neg h0, if_neg h1, if_pos h2]
        · by_cases h3 : j < 97
          · by_cases h4 : (j - 79) % 3 = 0
            · simp only [if_neg h0, if_neg h1, if_neg h2, if_pos h3, if_pos h4]
            · by_cases h5 : (j - 79) % 3 = 1
              · simp only [if_neg h0, if_neg h1, if_neg h2, if_pos h3, if_neg h4, if_pos h5]
              · simp only [if_neg h0, if_neg h1, if_neg h2, if_pos h3, if_neg h4, if_neg h5]
                exact up_other _ _ _ _ (by omega)
          · simp only [if_neg h0, if_neg h1, if_neg h2, if_neg h3]
theorem set_bS (s : NS) {k : Nat} (hk : k < 6) (v : Int) (j : Nat) : flat { s with bS := up s.bS k v } j = if j = 97 + k * 2 then v else flat s j := by
  by_cases e : j = 97 + k * 2
  · subst e; rw [if_pos rfl, flat_bS _ hk]; exact up_same _ _ _
  · rw [if_neg e]
    unfold flat
    by_cases h0 : j = 0
    · simp [h0]
    · by_cases h1 : j < 7
      · simp only [if_neg h0, if_pos h1]
      · by_cases h2 : j < 79
        · simp only [if_neg h0, if_neg h1, if_pos h2]
        · by_cases h3 : j < 97
          · simp only [if_neg h0, if_neg h1, if_neg h2, if_pos h3]
          · by_cases h4 : (j - 97) % 2 = 0
            · simp only [if_neg h0, if_neg h1, if_neg h2, if_neg h3, if_pos h4]
              exact up_other _ _ _ _ (by omega)
            · simp only [if_neg h0, if_neg h1, if_neg h2, if_neg h3, if_neg h4]
theorem set_bD (s : NS) {k : Nat} (hk : k < 6) (v : Int) (j : Nat) : flat { s with bD := up s.bD k v } j = if j = 97 + k * 2 + 1 then v else flat s j := by
  by_cases e : j = 97 + k * 2 + 1
  · subst e; rw [if_pos rfl, flat_bD _ hk]; exact up_same _ _ _
  · rw [if_neg e]
    unfold flat
    by_cases h0 : j = 0
    · simp [h0]
    · by_cases h1 : j < 7
      · simp only [if_neg h0, if_pos h1]
      · by_cases h2 : j < 79
        · simp only [if_neg h0, if_neg h1, if_pos h2]
        · by_cases h3 : j < 97
          · simp only [if_neg h0, if_neg h1, if_neg h2, if_pos h3]
          · by_cases h4 : (j - 97) % 2 = 0
            · simp only [if_neg h0, if_neg h1, if_neg h2, if_neg h3, if_pos h4]
            · simp only [if_neg h0, if_neg h1, if_neg h2, if_neg h3, if_neg h4]
              exact up_other _ _ _ _ (by omega)

/- The way to choose. -/
def may (s : NS) (who to : Nat) : Bool := decide (0 < s.cost who ∧ s.hD who to + s.cost who < 200) && betB (s.hS who to) (s.hD who to) (s.bS to) (s.bD to)
structure Way where
  seq : Int
  dist : Int
  hop : Int
def key (s : NS) (to k : Nat) : Way := ⟨s.hS k to, s.hD k to + s.cost k, k⟩
def none (s : NS) (to : Nat) : Way := ⟨s.bS to, 200, -1⟩
def choose (s : NS) (to : Nat) : Nat → Way
  | 0 => none s to
  | k + 1 => if may s k to = true ∧ ((choose s to k).hop = -1 ∨ betB (s.hS k to) (s.hD k to + s.cost k) (choose s to k).seq (choose s to k).dist = true) then key s to k else choose s to k
/-- From the top down, as the reference does. -/
def chooseR (s : NS) (to : Nat) : Nat → Way
  | 0 => none s to
  | m + 1 => if may s (5 - m) to = true ∧ ((chooseR s to m).hop = -1 ∨ betB (chooseR s to m).seq (chooseR s to m).dist (s.hS (5 - m) to) (s.hD (5 - m) to + s.cost (5 - m)) = false) then key s to (5 - m) else chooseR s to m

/-- The first of the best of those from lo to below hi. -/
structure Top (s : NS) (to lo hi t : Nat) : Prop where
  ge : lo ≤ t
  lt : t < hi
  may : may s t to = true
  best : ∀ j, lo ≤ j → j < hi → Nd.may s j to = true → betB (s.hS j to) (s.hD j to + s.cost j) (s.hS t to) (s.hD t to + s.cost t) = false
  first : ∀ j, lo ≤ j → j < t → Nd.may s j to = true → betB (s.hS t to) (s.hD t to + s.cost t) (s.hS j to) (s.hD j to + s.cost j) = true

theorem Top.uniq {s : NS} {to lo hi t u : Nat} (h : Top s to lo hi t) (k : Top s to lo hi u) : t = u := by
  rcases Nat.lt_trichotomy t u with e | e | e
  · have h1 := k.first t h.ge e h.may
    have h2 := h.best u k.ge k.lt k.may
    rw [h1] at h2; cases h2
  · exact e
  · have h1 := h.first u k.ge e k.may
    have h2 := k.best t h.ge h.lt h.may
    rw [h1] at h2; cases h2

theorem choose_spec (s : NS) (to : Nat) : ∀ k, (choose s to k = none s to ∧ ∀ j, j < k → may s j to = false) ∨ ∃ t, Top s to 0 k t ∧ choose s to k = key s to t
  | 0 => .inl ⟨rfl, fun j hj => by omega⟩
  | k + 1 => by
    rcases choose_spec s to k with ⟨h1, h2⟩ | ⟨t, ht, h1⟩
    · cases hm : may s k to
      · refine .inl ⟨?_, fun j hj => ?_⟩
        · rw [choose, if_neg (by simp [hm])]; exact h1
        · by_cases e : j = k
          · rw [e]; exact hm
          · exact h2 j (by omega)
      · refine .inr ⟨k, ⟨by omega, by omega, hm, fun j _ hj hj2 => ?_, fun j _ hj hj2 => ?_⟩, ?_⟩
        · by_cases e : j = k
          · subst e; rw [betB_no]; omega
          · rw [h2 j (by omega)] at hj2; cases hj2
        · rw [h2 j hj] at hj2; cases hj2
        · rw [choose, if_pos ⟨hm, .inl (by rw [h1]; rfl)⟩]
    · by_cases hc : may s k to = true ∧ betB (s.hS k to) (s.hD k to + s.cost k) (s.hS t to) (s.hD t to + s.cost t) = true
      · refine .inr ⟨k, ⟨by omega, by omega, hc.1, fun j h0 hj hj2 => ?_, fun j h0 hj hj2 => ?_⟩, ?_⟩
        · by_cases e : j = k
          · subst e; rw [betB_no]; omega
          · have h3 := ht.best j h0 (by omega) hj2
            have h4 := hc.2
            rw [betB_no] at h3 ⊢; rw [betB_iff] at h4
            omega
        · have h3 := ht.best j h0 hj hj2
          have h4 := hc.2
          rw [betB_no] at h3; rw [betB_iff] at h4 ⊢
          omega
        · rw [choose, if_pos ⟨hc.1, .inr (by rw [h1]; exact hc.2)⟩]
      · refine .inr ⟨t, ⟨ht.ge, by have := ht.lt; omega, ht.may, fun j h0 hj hj2 => ?_, ht.first⟩, ?_⟩
        · by_cases e : j = k
          · subst e
            cases hb : betB (s.hS j to) (s.hD j to + s.cost j) (s.hS t to) (s.hD t to + s.cost t)
            · rfl
            · exact absurd ⟨hj2, hb⟩ hc
          · exact ht.best j h0 (by omega) hj2
        · rw [choose, if_neg]
          · exact h1
          · rintro ⟨a, b⟩
            rcases b with b | b
            · rw [h1] at b; simp only [key] at b; omega
            · rw [h1] at b; exact hc ⟨a, b⟩

theorem chooseR_spec (s : NS) (to : Nat) : ∀ m, m ≤ 6 → (chooseR s to m = none s to ∧ ∀ j, 6 - m ≤ j → j < 6 → may s j to = false) ∨ ∃ t, Top s to (6 - m) 6 t ∧ chooseR s to m = key s to t
  | 0, _ => .inl ⟨rfl, fun j hj h => by omega⟩
  | m + 1, hm6 => by
    have e5 : 6 - (m + 1) = 5 - m := by omega
    rw [e5]
    rcases chooseR_spec s to m (by omega) with ⟨h1, h2⟩ | ⟨t, ht, h1⟩
    · cases hm : may s (5 - m) to
      · refine .inl ⟨?_, fun j hj hj6 => ?_⟩
        · rw [chooseR, if_neg (by simp [hm])]; exact h1
        · by_cases e : j = 5 - m
          · rw [e]; exact hm
          · exact h2 j (by omega) hj6
      · refine .inr ⟨5 - m, ⟨by omega, by omega, hm, fun j h0 hj hj2 => ?_, fun j h0 hj hj2 => by omega⟩, ?_⟩
        · by_cases e : j = 5 - m
          · subst e; rw [betB_no]; omega
          · rw [h2 j (by omega) hj] at hj2; cases hj2
        · rw [chooseR, if_pos ⟨hm, .inl (by rw [h1]; rfl)⟩]
    · by_cases hc : may s (5 - m) to = true ∧ betB (s.hS t to) (s.hD t to + s.cost t) (s.hS (5 - m) to) (s.hD (5 - m) to + s.cost (5 - m)) = false
      · refine .inr ⟨5 - m, ⟨by omega, by omega, hc.1, fun j h0 hj hj2 => ?_, fun j h0 hj hj2 => by omega⟩, ?_⟩
        · by_cases e : j = 5 - m
          · subst e; rw [betB_no]; omega
          · have h3 := ht.best j (by omega) hj hj2
            have h4 := hc.2
            rw [betB_no] at h3 h4 ⊢
            omega
        · rw [chooseR, if_pos ⟨hc.1, .inr (by rw [h1]; exact hc.2)⟩]
      · refine .inr ⟨t, ⟨by have := ht.ge; omega, ht.lt, ht.may, fun j h0 hj hj2 => ?_, fun j h0 hj hj2 => ?_⟩, ?_⟩
        · by_cases e : j = 5 - m
          · subst e
            have hb : betB (s.hS t to) (s.hD t to + s.cost t) (s.hS (5 - m) to) (s.hD (5 - m) to + s.cost (5 - m)) = true := by
              cases hb : betB (s.hS t to) (s.hD t to + s.cost t) (s.hS (5 - m) to) (s.hD (5 - m) to + s.cost (5 - m))
              · exact absurd ⟨hj2, hb⟩ hc
              · rfl
            rw [betB_iff] at hb
            rw [betB_no]
            omega
          · exact ht.best j (by omega) hj hj2
        · by_cases e : j = 5 - m
          · subst e
            cases hb : betB (s.hS t to) (s.hD t to + s.cost t) (s.hS (5 - m) to) (s.hD (5 - m) to + s.cost (5 - m))
            · exact absurd ⟨hj2, hb⟩ hc
            · rfl
          · exact ht.first j (by omega) hj hj2
        · rw [chooseR, if_neg]
          · exact h1
          · rintro ⟨a, b⟩
            rcases b with b | b
            · rw [h1] at b; simp only [key] at b; omega
            · rw [h1] at b; exact hc ⟨a, b⟩

/-- Both ways of choosing come to the same. -/
theorem chooseR_eq (s : NS) (to : Nat) : chooseR s to 6 = choose s to 6 := by
  rcases choose_spec s to 6 with ⟨h1, h2⟩ | ⟨t, ht, h1⟩
  · rcases chooseR_spec s to 6 (by omega) with ⟨k1, k2⟩ | ⟨u, hu, k1⟩
    · rw [h1, k1]
    · have := h2 u hu.lt
      rw [hu.may] at this; cases this
  · rcases chooseR_spec s to 6 (by omega) with ⟨k1, k2⟩ | ⟨u, hu, k1⟩
    · have := k2 t (by omega) ht.lt
      rw [ht.may] at this; cases this
    · rw [h1, k1, Top.uniq ht hu]

/-- The way to a node laid; the best kept. -/
def lay (s : NS) (to : Nat) (w : Way) : NS :=
  { s with wS := up s.wS to w.seq, wD := up s.wD to w.dist, wH := up s.wH to w.hop,
           bS := if w.hop ≠ -1 ∧ betB w.seq w.dist (s.bS to) (s.bD to) = true then up s.bS to w.seq else s.bS,
           bD := if w.hop ≠ -1 ∧ betB w.seq w.dist (s.bS to) (s.bD to) = true then up s.bD to w.dist else s.bD }
theorem lay_keep (s : NS) (dst : Nat) (w : Way) (h : ¬ (w.hop ≠ -1 ∧ betB w.seq w.dist (s.bS dst) (s.bD dst) = true)) : lay s dst w = { s with wS := up s.wS dst w.seq, wD := up s.wD dst w.dist, wH := up s.wH dst w.hop } := by
  simp only [lay, if_neg h]
theorem lay_best (s : NS) (dst : Nat) (w : Way) (h : w.hop ≠ -1 ∧ betB w.seq w.dist (s.bS dst) (s.bD dst) = true) : lay s dst w = { s with wS := up s.wS dst w.seq, wD := up s.wD dst w.dist, wH := up s.wH dst w.hop, bS := up s.bS dst w.seq, bD := up s.bD dst w.dist } := by
  simp only [lay, if_pos h]
def pick (s : NS) (to : Nat) : NS := if to = s.me then s else lay s to (choose s to 6)
def all (s : NS) : Nat → NS
  | 0 => s
  | k + 1 => pick (all s k) k
/-- What one said, the first k forgotten. -/
def forgetK (s : NS) (who k : Nat) : NS := { s with hS := fun a b => if a = who ∧ b < k then 0 else s.hS a b, hD := fun a b => if a = who ∧ b < k then 200 else s.hD a b }
theorem forgetK_zero (s : NS) (who : Nat) : forgetK s who 0 = s := by simp [forgetK]
theorem forgetK_succ (s : NS) (who k : Nat) : forgetK s who (k + 1) = { forgetK s who k with hS := up2 (forgetK s who k).hS who k 0, hD := up2 (forgetK s who k).hD who k 200 } := by
  have e1 : (forgetK s who (k + 1)).hS = up2 (forgetK s who k).hS who k 0 := by
    funext a b
    simp only [forgetK, up2]
    by_cases h : a = who ∧ b = k
    · rw [if_pos (by omega), if_pos h]
    · rw [if_neg h]
      by_cases h2 : a = who ∧ b < k
      · rw [if_pos (by omega), if_pos h2]
      · rw [if_neg (by omega), if_neg h2]
  have e2 : (forgetK s who (k + 1)).hD = up2 (forgetK s who k).hD who k 200 := by
    funext a b
    simp only [forgetK, up2]
    by_cases h : a = who ∧ b = k
    · rw [if_pos (by omega), if_pos h]
    · rw [if_neg h]
      by_cases h2 : a = who ∧ b < k
      · rw [if_pos (by omega), if_pos h2]
      · rw [if_neg (by omega), if_neg h2]
  rw [← e1, ← e2]
  rfl
def forget (s : NS) (who : Nat) : NS := forgetK s who 6
def link (s : NS) (who : Nat) (c : Int) : NS :=
  let s1 : NS := { s with cost := up s.cost who c }
  all (if c = 0 then forget s1 who else s1) 6
def hear (s : NS) (src to : Nat) (q d : Int) : NS := pick { s with hS := up2 s.hS src to q, hD := up2 s.hD src to d } to
def own (s : NS) : NS := { s with wD := up s.wD s.me 0, wH := up s.wH s.me s.me, bS := up s.bS s.me (s.wS s.me), bD := up s.bD s.me 0 }
def tick (s : NS) : NS := own { s with wS := up s.wS s.me (s.wS s.me + 1) }
/-- What always holds of a node. -/
structure Ok (s : NS) : Prop where
  me : s.me < 6
  cost : ∀ k, k < 6 → 0 ≤ s.cost k ∧ s.cost k ≤ 15
  hS : ∀ i k, i < 6 → k < 6 → 0 ≤ s.hS i k
  hD : ∀ i k, i < 6 → k < 6 → 0 ≤ s.hD i k ∧ s.hD i k ≤ 200
theorem choose_hit (s : NS) (dst k : Nat) (h : may s k dst = true ∧ ((choose s dst k).hop = -1 ∨ betB (s.hS k dst) (s.hD k dst + s.cost k) (choose s dst k).seq (choose s dst k).dist = true)) : choose s dst (k + 1) = key s dst k := by rw [choose, if_pos h]
theorem choose_miss (s : NS) (dst k : Nat) (h : ¬ (may s k dst = true ∧ ((choose s dst k).hop = -1 ∨ betB (s.hS k dst) (s.hD k dst + s.cost k) (choose s dst k).seq (choose s dst k).dist = true))) : choose s dst (k + 1) = choose s dst k := by rw [choose, if_neg h]
/-- A new node, of the first k nodes nothing known yet. -/
def newK (me k : Nat) : NS :=
  { me := me, cost := fun _ => 0, hS := fun _ _ => 0, hD := fun a c => if a < k ∧ c < 6 then 200 else 0, wS := fun _ => 0, wD := fun j => if j < k then 200 else 0, wH := fun j => if j < k then -1 else 0, bS := fun _ => 0, bD := fun j => if j < k then 200 else 0 }
/-- .. and the ways to it. -/
def newW (me k : Nat) : NS := { newK me k with wS := up (newK me k).wS k 0, wD := up (newK me k).wD k 200, wH := up (newK me k).wH k (-1), bS := up (newK me k).bS k 0, bD := up (newK me k).bD k 200 }
theorem newK_succ (me k : Nat) : newK me (k + 1) = forgetK (newW me k) k 6 := by
  have e1 : (newK me (k + 1)).hS = (forgetK (newW me k) k 6).hS := by funext a c; simp [newK, newW, forgetK]
  have e2 : (newK me (k + 1)).hD = (forgetK (newW me k) k 6).hD := by
    funext a c
    simp only [newK, newW, forgetK]
    by_cases h1 : a = k ∧ c < 6
    · rw [if_pos h1, if_pos (by omega)]
    · rw [if_neg h1]
      by_cases h2 : a < k ∧ c < 6
      · rw [if_pos h2, if_pos (by omega)]
      · rw [if_neg h2, if_neg (by omega)]
  have e3 : (newK me (k + 1)).wS = (forgetK (newW me k) k 6).wS := by funext a; simp [newK, newW, forgetK, up]
  have e4 : (newK me (k + 1)).wD = (forgetK (newW me k) k 6).wD := by
    funext a; simp only [newK, newW, forgetK, up]
    by_cases h : a = k
    · rw [if_pos h, if_pos (by omega)]
    · rw [if_neg h]
      by_cases h2 : a < k
      · rw [if_pos h2, if_pos (by omega)]
      · rw [if_neg h2, if_neg (by omega)]
  have e5 : (newK me (k + 1)).wH = (forgetK (newW me k) k 6).wH := by
    funext a; simp only [newK, newW, forgetK, up]
    by_cases h : a = k
    · rw [if_pos h, if_pos (by omega)]
    · rw [if_neg h]
      by_cases h2 : a < k
      · rw [if_pos h2, if_pos (by omega)]
      · rw [if_neg h2, if_neg (by omega)]
  have e6 : (newK me (k + 1)).bS = (forgetK (newW me k) k 6).bS := by funext a; simp [newK, newW, forgetK, up]
  have e7 : (newK me (k + 1)).bD = (forgetK (newW me k) k 6).bD := by
    funext a; simp only [newK, newW, forgetK, up]
    by_cases h : a = k
    · rw [if_pos h, if_pos (by omega)]
    · rw [if_neg h]
      by_cases h2 : a < k
      · rw [if_pos h2, if_pos (by omega)]
      · rw [if_neg h2, if_neg (by omega)]
  calc newK me (k + 1) = ⟨me, fun _ => 0, (newK me (k + 1)).hS, (newK me (k + 1)).hD, (newK me (k + 1)).wS, (newK me (k + 1)).wD, (newK me (k + 1)).wH, (newK me (k + 1)).bS, (newK me (k + 1)).bD⟩ := rfl
    _ = forgetK (newW me k) k 6 := by rw [e1, e2, e3, e4, e5, e6, e7]; rfl
def fresh (me : Nat) : NS := own (newK me 6)
def wayOf (s : NS) (k : Nat) : Way := ⟨s.wS k, s.wD k, s.wH k⟩
def noWay : Way := ⟨0, 200, -1⟩
def wayAt (s : NS) (k : Int) : Way := if 0 ≤ k ∧ k < 6 then wayOf s k.toNat else noWay
/-- Link, Hear: what they say and leave. -/
def linkBad (s : NS) (who c : Int) : Prop := ¬ (0 ≤ who ∧ who < 6) ∨ who = s.me ∨ c < 0 ∨ 15 < c
instance (s : NS) (who c : Int) : Decidable (linkBad s who c) := by unfold linkBad; infer_instance
def linkC (s : NS) (who c : Int) : NS × Int := if linkBad s who c then (s, 1) else (link s who.toNat c, 0)
def hearBad (s : NS) (f t q d : Int) : Prop := ¬ (0 ≤ f ∧ f < 6) ∨ ¬ (0 ≤ t ∧ t < 6) ∨ f = s.me ∨ q < 0 ∨ d < 0 ∨ 200 < d
instance (s : NS) (f t q d : Int) : Decidable (hearBad s f t q d) := by unfold hearBad; infer_instance
def hearC (s : NS) (f t q d : Int) : NS × Int := if hearBad s f t q d then (s, 1) else if s.cost f.toNat = 0 then (s, 6) else (hear s f.toNat t.toNat q d, 0)
/-- What it tells, of the first k nodes. -/
def tellL (s : NS) (who : Int) (k : Nat) : List Int := (List.range k).flatMap fun (t : Nat) => [(s.me : Int), who, (t : Int), s.wS t, s.wD t]
theorem tellL_succ (s : NS) (who : Int) (k : Nat) : tellL s who (k + 1) = tellL s who k ++ [(s.me : Int), who, (k : Int), s.wS k, s.wD k] := by simp [tellL, List.range_succ]
theorem tellL_len (s : NS) (who : Int) : ∀ k, (tellL s who k).length = k * 5
  | 0 => rfl
  | k + 1 => by rw [tellL_succ, List.length_append, tellL_len s who k]; simp; omega
theorem Ok.lay {s : NS} (h : Ok s) (dst : Nat) (w : Way) : Ok (lay s dst w) := ⟨h.me, h.cost, h.hS, h.hD⟩
theorem Ok.pick {s : NS} (h : Ok s) (dst : Nat) : Ok (pick s dst) := by
  unfold Nd.pick; split
  · exact h
  · exact h.lay _ _
theorem Ok.all {s : NS} (h : Ok s) : ∀ k, Ok (all s k)
  | 0 => h
  | k + 1 => (Ok.all h k).pick k
theorem Ok.forget {s : NS} (h : Ok s) (who : Nat) : Ok (forget s who) where
  me := h.me
  cost := h.cost
  hS i k hi hk := by
    have := h.hS i k hi hk
    simp only [Nd.forget, forgetK]; split <;> omega
  hD i k hi hk := by
    have := h.hD i k hi hk
    simp only [Nd.forget, forgetK]; split <;> omega
theorem Ok.cost' {s : NS} (h : Ok s) (who : Nat) (c : Int) (h0 : 0 ≤ c) (h1 : c ≤ 15) : Ok { s with cost := up s.cost who c } where
  me := h.me
  cost k hk := by
    have := h.cost k hk
    simp only [up]; split <;> omega
  hS := h.hS
  hD := h.hD
theorem Ok.link {s : NS} (h : Ok s) (who : Nat) (c : Int) (h0 : 0 ≤ c) (h1 : c ≤ 15) : Ok (link s who c) := by
  unfold Nd.link
  dsimp only
  split
  · exact Ok.all (Ok.forget (Ok.cost' h who c h0 h1) who) 6
  · exact Ok.all (Ok.cost' h who c h0 h1) 6
theorem Ok.heard {s : NS} (h : Ok s) (src dst : Nat) (q d : Int) (hq : 0 ≤ q) (h0 : 0 ≤ d) (h1 : d ≤ 200) : Ok { s with hS := up2 s.hS src dst q, hD := up2 s.hD src dst d } where
  me := h.me
  cost := h.cost
  hS i k hi hk := by
    have := h.hS i k hi hk
    simp only [up2]; split <;> omega
  hD i k hi hk := by
    have := h.hD i k hi hk
    simp only [up2]; split <;> omega
theorem Ok.hear {s : NS} (h : Ok s) (src dst : Nat) (q d : Int) (hq : 0 ≤ q) (h0 : 0 ≤ d) (h1 : d ≤ 200) : Ok (hear s src dst q d) := (h.heard src dst q d hq h0 h1).pick dst
theorem Ok.own {s : NS} (h : Ok s) : Ok (own s) := ⟨h.me, h.cost, h.hS, h.hD⟩
theorem Ok.tick {s : NS} (h : Ok s) : Ok (tick s) := Ok.own (s := { s with wS := up s.wS s.me (s.wS s.me + 1) }) ⟨h.me, h.cost, h.hS, h.hD⟩
theorem Ok.fresh {me : Nat} (h : me < 6) : Ok (fresh me) := Ok.own (s := newK me 6) ⟨h, fun _ _ => by simp [newK], fun _ _ _ _ => by simp [newK], fun _ _ _ _ => by simp only [newK]; split <;> omega⟩
theorem Ok.linkC {s : NS} (h : Ok s) (who c : Int) : Ok (linkC s who c).1 := by
  unfold Nd.linkC; split
  · exact h
  · rename_i hb
    simp only [linkBad] at hb
    exact h.link _ c (by omega) (by omega)
theorem Ok.hearC {s : NS} (h : Ok s) (f t q d : Int) : Ok (hearC s f t q d).1 := by
  unfold Nd.hearC; split
  · exact h
  · rename_i hb
    simp only [hearBad] at hb
    split
    · exact h
    · exact h.hear _ _ q d (by omega) (by omega) (by omega)
end Go.Proofs.YteedndapbfihaaaGreat.Nd
