/- The best is never worse; a way is what was told, and was told better than the best. -/
import Derived.Test.YtdpgbgapelgomaaNdMath5
namespace Go.Proofs.Ytdpgbgapelgomaa.Nd

structure WayOk (s : NS) (k : Nat) : Prop where
  via : s.wH k ≠ -1 → ∃ f : Nat, f < 6 ∧ s.wH k = (f : Int) ∧ 0 < s.cost f ∧ s.wS k = s.hS f k ∧ s.wD k = s.hD f k + s.cost f ∧ s.hD f k + s.cost f < 200 ∧ betB (s.hS f k) (s.hD f k) (s.bS k) (s.bD k) = true ∧ betB (s.wS k) (s.wD k) (s.bS k) (s.bD k) = false
theorem pick_wayOk {s : NS} (k : Nat) (hm : k ≠ s.me) : WayOk (pick s k) k := by
  constructor
  intro h
  rw [Nd.pick, if_neg hm] at *
  rcases choose_cases s k with e | ⟨t, ht, hmay, e⟩
  · rw [e] at h
    exact absurd (by simp only [lay, up_same]; rfl) h
  · rw [e] at *
    have hmay' := hmay
    simp only [may, Bool.and_eq_true, decide_eq_true_eq] at hmay
    obtain ⟨⟨h1, h2⟩, h3⟩ := hmay
    refine ⟨t, ht, by simp only [lay, key, up_same], h1, by simp only [lay, key, up_same], by simp only [lay, key, up_same], h2, ?_, ?_⟩
    · by_cases hb : (key s k t).hop ≠ -1 ∧ betB (key s k t).seq (key s k t).dist (s.bS k) (s.bD k) = true
      · simp only [lay, if_pos hb, up_same]
        rw [betB_iff]
        exact .inr ⟨rfl, by show s.hD t k < s.hD t k + s.cost t; omega⟩
      · simp only [lay, if_neg hb]
        exact h3
    · by_cases hb : (key s k t).hop ≠ -1 ∧ betB (key s k t).seq (key s k t).dist (s.bS k) (s.bD k) = true
      · simp only [lay, if_pos hb, up_same]
        rw [betB_no]; omega
      · simp only [lay, if_neg hb, up_same]
        cases hc : betB (key s k t).seq (key s k t).dist (s.bS k) (s.bD k)
        · rfl
        · exact absurd ⟨by simp only [key]; omega, hc⟩ hb
theorem pick_other {s : NS} {j k : Nat} (h : WayOk s j) (hj : j ≠ k) : WayOk (pick s k) j := by
  unfold Nd.pick
  split
  · exact h
  · constructor
    have hb1 : (lay s k (choose s k 6)).bS j = s.bS j := by simp only [lay]; split <;> simp [up, hj]
    have hb2 : (lay s k (choose s k 6)).bD j = s.bD j := by simp only [lay]; split <;> simp [up, hj]
    have h1 : (lay s k (choose s k 6)).wH j = s.wH j := up_other _ _ _ _ hj
    have h2 : (lay s k (choose s k 6)).wS j = s.wS j := up_other _ _ _ _ hj
    have h3 : (lay s k (choose s k 6)).wD j = s.wD j := up_other _ _ _ _ hj
    rw [hb1, hb2, h1, h2, h3]
    exact h.via
theorem all_wayOk (s : NS) : ∀ n j, j < n → j ≠ s.me → WayOk (all s n) j
  | 0, _, hj, _ => by omega
  | n + 1, j, hj, hm => by
    rw [Nd.all]
    by_cases e : j = n
    · subst e; exact pick_wayOk j (by rw [all_me]; exact hm)
    · exact pick_other (all_wayOk s n j (by omega) hm) e
/-- Best and age of itself. -/
structure Bst (s : NS) : Prop where
  way : ∀ k, k < 6 → k ≠ s.me → WayOk s k
  meS : s.bS s.me = s.wS s.me
  meD : s.bD s.me = 0
theorem pick_bme (s : NS) (k : Nat) : (pick s k).bS s.me = s.bS s.me ∧ (pick s k).bD s.me = s.bD s.me := by
  unfold Nd.pick; split
  · exact ⟨rfl, rfl⟩
  · rename_i hk
    have hne : s.me ≠ k := fun e => hk e.symm
    simp only [lay]; constructor <;> split <;> simp [up, hne]
theorem all_bme (s : NS) : ∀ n, (all s n).bS s.me = s.bS s.me ∧ (all s n).bD s.me = s.bD s.me
  | 0 => ⟨rfl, rfl⟩
  | n + 1 => by
    have h := pick_bme (all s n) n
    rw [all_me] at h
    rw [Nd.all, h.1, h.2]
    exact all_bme s n
theorem Bst.all {s : NS} (h1 : s.bS s.me = s.wS s.me) (h2 : s.bD s.me = 0) : Bst (all s 6) :=
  ⟨fun k hk hm => all_wayOk s 6 k hk (by rw [all_me] at hm; exact hm), by rw [all_me, (all_bme s 6).1, all_wSme]; exact h1, by rw [all_me, (all_bme s 6).2]; exact h2⟩
theorem Bst.linkC {s : NS} (h : Bst s) (who c : Int) : Bst (linkC s who c).1 := by
  unfold Nd.linkC; split
  · exact h
  · show Bst (link s who.toNat c)
    unfold Nd.link; dsimp only; split
    · exact Bst.all (s := forget { s with cost := up s.cost who.toNat c } who.toNat) h.meS h.meD
    · exact Bst.all (s := { s with cost := up s.cost who.toNat c }) h.meS h.meD
theorem Bst.hearC {s : NS} (h : Bst s) (f t q d : Int) : Bst (hearC s f t q d).1 := by
  unfold Nd.hearC; split
  · exact h
  · split
    · exact h
    · show Bst (pick { s with hS := up2 s.hS f.toNat t.toNat q, hD := up2 s.hD f.toNat t.toNat d } t.toNat)
      generalize f.toNat = x
      generalize t.toNat = y
      have hme : (pick { s with hS := up2 s.hS x y q, hD := up2 s.hD x y d } y).me = s.me := pick_me _ _
      refine ⟨fun k hk hm => ?_, ?_, ?_⟩
      · rw [hme] at hm
        by_cases e : k = y
        · subst e; exact pick_wayOk k hm
        · refine pick_other ⟨?_⟩ e
          intro hh
          obtain ⟨g, a1, a2, a3, a4, a5, a6, a7, a8⟩ := (h.way k hk hm).via hh
          have e1 : up2 s.hS x y q g k = s.hS g k := by simp [up2, e]
          have e2 : up2 s.hD x y d g k = s.hD g k := by simp [up2, e]
          exact ⟨g, a1, a2, a3, by show _ = up2 s.hS x y q g k; rw [e1]; exact a4, by show _ = up2 s.hD x y d g k + _; rw [e2]; exact a5, by show up2 s.hD x y d g k + _ < _; rw [e2]; exact a6, by show betB (up2 s.hS x y q g k) (up2 s.hD x y d g k) _ _ = _; rw [e1, e2]; exact a7, a8⟩
      · rw [hme]
        have h1 := (pick_bme { s with hS := up2 s.hS x y q, hD := up2 s.hD x y d } y).1
        have h2 := pick_wSme { s with hS := up2 s.hS x y q, hD := up2 s.hD x y d } y
        exact h1.trans (h.meS.trans h2.symm)
      · rw [hme]
        exact (pick_bme { s with hS := up2 s.hS x y q, hD := up2 s.hD x y d } y).2.trans h.meD
theorem Bst.tick {s : NS} (h : Bst s) : Bst (tick s) := by
  refine ⟨fun k hk hm => ⟨?_⟩, by simp [Nd.tick, own], by simp [Nd.tick, own]⟩
  have hm' : k ≠ s.me := hm
  have e1 : (Nd.tick s).wH k = s.wH k := by simp [Nd.tick, own, up, hm']
  have e2 : (Nd.tick s).wS k = s.wS k := by simp [Nd.tick, own, up, hm']
  have e3 : (Nd.tick s).wD k = s.wD k := by simp [Nd.tick, own, up, hm']
  have e4 : (Nd.tick s).bS k = s.bS k := by simp [Nd.tick, own, up, hm']
  have e5 : (Nd.tick s).bD k = s.bD k := by simp [Nd.tick, own, up, hm']
  rw [e1, e2, e3, e4, e5]
  exact (h.way k hk hm').via
theorem Bst.fresh {me : Nat} (_h : me < 6) : Bst (fresh me) := by
  refine ⟨fun k hk hm => ⟨fun hh => ?_⟩, by simp [Nd.fresh, own], by simp [Nd.fresh, own]⟩
  have hm' : k ≠ me := hm
  exact absurd (by simp [Nd.fresh, own, newK, up, hm', hk]) hh

/-- Not worse. -/
def NW (s s' : NS) (k : Nat) : Prop := betB (s.bS k) (s.bD k) (s'.bS k) (s'.bD k) = false
theorem NW.refl (s : NS) (k : Nat) : NW s s k := by unfold NW; rw [betB_no]; omega
theorem NW.trans {a b c : NS} {k : Nat} (h1 : NW a b k) (h2 : NW b c k) : NW a c k := by
  unfold NW at *; rw [betB_no] at *; omega
theorem NW.same {s s' : NS} {k : Nat} (e1 : s'.bS k = s.bS k) (e2 : s'.bD k = s.bD k) : NW s s' k := by unfold NW; rw [e1, e2, betB_no]; omega
theorem NW.pick (s : NS) (j k : Nat) : NW s (pick s j) k := by
  unfold Nd.pick; split
  · exact NW.refl _ _
  · by_cases hb : (choose s j 6).hop ≠ -1 ∧ betB (choose s j 6).seq (choose s j 6).dist (s.bS j) (s.bD j) = true
    · unfold NW
      simp only [lay, if_pos hb]
      by_cases e : k = j
      · subst e
        rw [up_same, up_same]
        have := hb.2
        rw [betB_iff] at this
        rw [betB_no]; omega
      · rw [up_other _ _ _ _ e, up_other _ _ _ _ e, betB_no]; omega
    · unfold NW
      simp only [lay, if_neg hb]
      rw [betB_no]; omega
theorem NW.all (s : NS) (k : Nat) : ∀ n, NW s (all s n) k
  | 0 => NW.refl _ _
  | n + 1 => (NW.all s k n).trans (NW.pick _ _ _)
theorem NW.linkC (s : NS) (who c : Int) (k : Nat) : NW s (linkC s who c).1 k := by
  unfold Nd.linkC; split
  · exact NW.refl _ _
  · show NW s (link s who.toNat c) k
    unfold Nd.link; dsimp only; split
    · exact (NW.same (s' := forget { s with cost := up s.cost who.toNat c } who.toNat) rfl rfl).trans (NW.all _ k 6)
    · exact (NW.same (s' := { s with cost := up s.cost who.toNat c }) rfl rfl).trans (NW.all _ k 6)
theorem NW.hearC (s : NS) (f t q d : Int) (k : Nat) : NW s (hearC s f t q d).1 k := by
  unfold Nd.hearC; split
  · exact NW.refl _ _
  · split
    · exact NW.refl _ _
    · exact (NW.same (s' := { s with hS := up2 s.hS f.toNat t.toNat q, hD := up2 s.hD f.toNat t.toNat d }) rfl rfl).trans (NW.pick _ _ _)
theorem NW.tick {s : NS} (h : Bst s) (k : Nat) : NW s (tick s) k := by
  by_cases e : k = s.me
  · subst e
    unfold NW
    have h1 := h.meS
    have h2 := h.meD
    have e4 : (Nd.tick s).bS s.me = s.wS s.me + 1 := by simp [Nd.tick, own]
    have e5 : (Nd.tick s).bD s.me = 0 := by simp [Nd.tick, own]
    rw [e4, e5, h1, h2, betB_no]; omega
  · exact NW.same (by simp [Nd.tick, own, up, e]) (by simp [Nd.tick, own, up, e])

/-- What was said is what is known of it, where that is not forgotten. -/
def Said (s : NS) (sS sD : Nat → Nat → Int) : Prop := ∀ f k, f < 6 → k < 6 → s.hD f k < 200 → sS f k = s.hS f k ∧ sD f k = s.hD f k
theorem all_heard (s : NS) : ∀ n, (all s n).hS = s.hS ∧ (all s n).hD = s.hD ∧ (all s n).cost = s.cost
  | 0 => ⟨rfl, rfl, rfl⟩
  | n + 1 => by
    rw [Nd.all]
    obtain ⟨h1, h2, h3⟩ := all_heard s n
    unfold Nd.pick; split
    · exact ⟨h1, h2, h3⟩
    · exact ⟨h1, h2, h3⟩
theorem Said.linkC {s : NS} {sS sD : Nat → Nat → Int} (h : Said s sS sD) (who c : Int) : Said (linkC s who c).1 sS sD := by
  unfold Nd.linkC; split
  · exact h
  · show Said (link s who.toNat c) sS sD
    unfold Nd.link; dsimp only; split
    · intro f k hf hk hd
      rw [(all_heard _ 6).2.1] at *
      rw [(all_heard _ 6).1]
      simp only [forget, forgetK] at *
      by_cases e : f = who.toNat ∧ k < 6
      · rw [if_pos e] at hd; omega
      · rw [if_neg e] at *; rw [if_neg e]; exact h f k hf hk hd
    · intro f k hf hk hd
      rw [(all_heard _ 6).2.1] at *
      rw [(all_heard _ 6).1]
      exact h f k hf hk hd
theorem linkC_cost_ok {s : NS} {who c : Int} (h : (linkC s who c).2 = 0) : (0 ≤ who ∧ who < 6) ∧ (linkC s who c).1.cost = up s.cost who.toNat c := by
  unfold Nd.linkC at *
  split at h
  · simp at h
  · rename_i hb
    rw [if_neg hb]
    simp only [linkBad] at hb
    refine ⟨by omega, ?_⟩
    show (link s who.toNat c).cost = _
    unfold Nd.link; dsimp only; split <;> rw [(all_heard _ 6).2.2] <;> rfl
theorem linkC_no {s : NS} {who c : Int} (h : (linkC s who c).2 ≠ 0) : (linkC s who c).1 = s := by
  unfold Nd.linkC at *
  split at h
  · rename_i hb; rw [if_pos hb]
  · simp at h
theorem pick_heard (s : NS) (k : Nat) : (pick s k).hS = s.hS ∧ (pick s k).hD = s.hD ∧ (pick s k).cost = s.cost := by
  unfold Nd.pick; split <;> exact ⟨rfl, rfl, rfl⟩
theorem hearC_cost (s : NS) (f t q d : Int) : (hearC s f t q d).1.cost = s.cost := by
  unfold Nd.hearC; split
  · rfl
  · split
    · rfl
    · exact (pick_heard _ _).2.2
theorem Said.hearC_ok {s : NS} {sS sD : Nat → Nat → Int} (h : Said s sS sD) {f t q d : Int} (hc : (hearC s f t q d).2 = 0) : Said (hearC s f t q d).1 (up2 sS f.toNat t.toNat q) (up2 sD f.toNat t.toNat d) := by
  obtain ⟨_, _, e⟩ := Nd.hearC_ok hc
  rw [e]
  intro g k hg hk hd
  have h1 := pick_heard { s with hS := up2 s.hS f.toNat t.toNat q, hD := up2 s.hD f.toNat t.toNat d } t.toNat
  unfold hear at *
  have hd' : up2 s.hD f.toNat t.toNat d g k < 200 := by
    have := h1.2.1
    rw [this] at hd
    exact hd
  rw [h1.1, h1.2.1]
  show up2 sS f.toNat t.toNat q g k = up2 s.hS f.toNat t.toNat q g k ∧ up2 sD f.toNat t.toNat d g k = up2 s.hD f.toNat t.toNat d g k
  simp only [up2] at *
  by_cases e : g = f.toNat ∧ k = t.toNat
  · simp only [if_pos e, and_self]
  · simp only [if_neg e] at *
    exact h g k hg hk hd'
theorem Said.fresh {me : Nat} (sS sD : Nat → Nat → Int) : Said (fresh me) sS sD := by
  intro f k hf hk hd
  simp [Nd.fresh, own, newK, hf, hk] at hd
theorem tick_heard (s : NS) : (tick s).hS = s.hS ∧ (tick s).hD = s.hD ∧ (tick s).cost = s.cost := ⟨rfl, rfl, rfl⟩

/-- All that the law asks of one node's way. -/
structure Asked (s : NS) (sS sD : Nat → Nat → Int) (k : Nat) : Prop where
  drop : s.wH k = -1 → s.wD k = 200
  noBetter : s.wH k ≠ -1 → betB (s.wS k) (s.wD k) (s.bS k) (s.bD k) = false
  via : s.wH k ≠ -1 → k ≠ s.me → ∃ f : Nat, f < 6 ∧ s.wH k = (f : Int) ∧ 0 < s.cost f ∧ s.cost f ≤ 15 ∧ s.wS k = sS f k ∧ s.wD k = sD f k + s.cost f ∧ 0 ≤ sD f k ∧ sD f k ≤ 200 ∧ betB (sS f k) (sD f k) (s.bS k) (s.bD k) = true
theorem asked {s : NS} {sS sD : Nat → Nat → Int} (ok : Ok s) (wy : Wy s) (own : Own s) (b : Bst s) (sd : Said s sS sD) {k : Nat} (hk : k < 6) : Asked s sS sD k := by
  refine ⟨wy.drop k hk, fun hh => ?_, fun hh hm => ?_⟩
  · by_cases e : k = s.me
    · subst e
      rw [b.meS, b.meD, own.d, betB_no]; omega
    · obtain ⟨f, _, _, _, _, _, _, _, a8⟩ := (b.way k hk e).via hh
      exact a8
  · obtain ⟨f, a1, a2, a3, a4, a5, a6, a7, _⟩ := (b.way k hk hm).via hh
    have h1 := ok.cost f a1
    have h2 := ok.hD f k a1 hk
    obtain ⟨s1, s2⟩ := sd f k a1 hk (by omega)
    exact ⟨f, a1, a2, a3, h1.2, by rw [s1]; exact a4, by rw [s2]; exact a5, by rw [s2]; exact h2.1, by rw [s2]; exact h2.2, by rw [s1, s2]; exact a7⟩
theorem Bst.step {s : NS} (h : Bst s) (x0 x1 x2 x4 x5 x6 : Int) : Bst (stepN s x0 x1 x2 x4 x5 x6) := by
  unfold stepN
  split
  · exact h.linkC _ _
  · split
    · exact h.hearC _ _ _ _
    · split
      · exact h.tick
      · exact h
theorem NW.step {s : NS} (h : Bst s) (x0 x1 x2 x4 x5 x6 : Int) (k : Nat) : NW s (stepN s x0 x1 x2 x4 x5 x6) k := by
  unfold stepN
  split
  · exact NW.linkC _ _ _ _
  · split
    · exact NW.hearC _ _ _ _ _ _
    · split
      · exact NW.tick h _
      · exact NW.refl _ _
theorem runN_bst {me : Nat} (h : me < 6) (X : Nat → Int) : ∀ k, Bst (runN me X k)
  | 0 => Bst.fresh h
  | k + 1 => (runN_bst h X k).step _ _ _ _ _ _
end Go.Proofs.Ytdpgbgapelgomaa.Nd
