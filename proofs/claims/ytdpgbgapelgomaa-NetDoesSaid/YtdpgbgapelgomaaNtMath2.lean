/- What steps keep in a net: heard is no better than the best of who said it; ages are counted at home. -/
import Derived.Test.YtdpgbgapelgomaaNtMath
namespace Go.Proofs.Ytdpgbgapelgomaa.Nd

/-- What is told of each way is no better than the best. -/
structure W2 (s : NS) : Prop where
  told : ∀ k, k < 6 → betB (s.wS k) (s.wD k) (s.bS k) (s.bD k) = false
  bD : ∀ k, k < 6 → s.bD k ≤ 200
theorem closed {P : NS → Prop} (hp : ∀ s k, k < 6 → Ok s → P s → P (pick s k)) (hs : ∀ s s' : NS, s'.me = s.me → s'.bS = s.bS → s'.bD = s.bD → s'.wS = s.wS → s'.wD = s.wD → s'.wH = s.wH → P s → P s') {s : NS} (ok : Ok s) (h : P s) :
    (∀ who c, P (linkC s who c).1) ∧ ∀ f t q d, P (hearC s f t q d).1 := by
  have hall : ∀ (s : NS), Ok s → P s → ∀ k, k ≤ 6 → P (all s k) := by
    intro s ok h k
    induction k with
    | zero => intro _; exact h
    | succ k ih => intro hk; exact hp _ k (by omega) (ok.all k) (ih (by omega))
  refine ⟨fun who c => ?_, fun f t q d => ?_⟩
  · unfold Nd.linkC; split
    · exact h
    · rename_i hb
      simp only [linkBad] at hb
      show P (link s who.toNat c)
      unfold Nd.link; dsimp only; split
      · exact hall _ (Ok.forget (Ok.cost' ok _ c (by omega) (by omega)) _) (hs s _ rfl rfl rfl rfl rfl rfl h) 6 (by omega)
      · exact hall _ (Ok.cost' ok _ c (by omega) (by omega)) (hs s _ rfl rfl rfl rfl rfl rfl h) 6 (by omega)
  · unfold Nd.hearC; split
    · exact h
    · rename_i hb
      simp only [hearBad] at hb
      split
      · exact h
      · exact hp _ _ (by omega) (ok.heard _ _ q d (by omega) (by omega) (by omega)) (hs s _ rfl rfl rfl rfl rfl rfl h)
theorem W2.pick {s : NS} {k : Nat} (hk : k < 6) (h : W2 s) : W2 (pick s k) := by
  unfold Nd.pick
  split
  · exact h
  · have key2 : (choose s k 6).hop = -1 ∧ (choose s k 6).seq = s.bS k ∧ (choose s k 6).dist = 200 ∨ (choose s k 6).hop ≠ -1 ∧ (choose s k 6).dist < 200 := by
      rcases choose_cases s k with e | ⟨t, ht, hm, e⟩
      · rw [e]; exact .inl ⟨rfl, rfl, rfl⟩
      · rw [e]
        simp only [may, Bool.and_eq_true, decide_eq_true_eq] at hm
        exact .inr ⟨by simp only [key]; omega, hm.1.2⟩
    have hb := h.bD k hk
    generalize choose s k 6 = w at *
    refine ⟨fun j hj => ?_, fun j hj => ?_⟩
    · by_cases e : j = k
      · subst e
        simp only [lay, up_same]
        split
        · rw [up_same, up_same, betB_no]; omega
        · rename_i hn
          rcases key2 with ⟨h1, h2, h3⟩ | ⟨h1, h2⟩
          · rw [h2, h3, betB_no]; omega
          · cases hc : betB w.seq w.dist (s.bS j) (s.bD j)
            · rfl
            · exact absurd ⟨h1, hc⟩ hn
      · have := h.told j hj
        simp only [lay]
        split <;> simp [up, e, this]
    · have := h.bD j hj
      simp only [lay]
      split
      · unfold up; split
        · rename_i hh _; rcases key2 with ⟨h1, h2, h3⟩ | ⟨h1, h2⟩ <;> omega
        · exact this
      · exact this
theorem W2.both {s : NS} (ok : Ok s) (h : W2 s) : (∀ who c, W2 (linkC s who c).1) ∧ ∀ f t q d, W2 (hearC s f t q d).1 :=
  closed (P := W2) (fun _ _ hk _ h => W2.pick hk h) (fun s s' _ e1 e2 e3 e4 _ h => ⟨by rw [e1, e2, e3, e4]; exact h.told, by rw [e2]; exact h.bD⟩) ok h
theorem W2.tick {s : NS} (h : W2 s) : W2 (tick s) := by
  refine ⟨fun k hk => ?_, fun k hk => ?_⟩
  · by_cases e : k = s.me
    · subst e
      have e1 : (Nd.tick s).wS s.me = s.wS s.me + 1 := tick_wSme s
      have e2 : (Nd.tick s).wD s.me = 0 := by simp [Nd.tick, Nd.own]
      have e3 : (Nd.tick s).bS s.me = s.wS s.me + 1 := by simp [Nd.tick, Nd.own]
      have e4 : (Nd.tick s).bD s.me = 0 := by simp [Nd.tick, Nd.own]
      rw [e1, e2, e3, e4, betB_no]; omega
    · have := h.told k hk
      simpa [Nd.tick, Nd.own, up, e] using this
  · have := h.bD k hk
    simp only [Nd.tick, Nd.own, up]; split <;> omega
theorem W2.fresh {me : Nat} : W2 (fresh me) := by
  refine ⟨fun k hk => ?_, fun k hk => ?_⟩
  · rw [betB_no]
    simp only [Nd.fresh, Nd.own, newK, up]
    split <;> (try split) <;> omega
  · simp only [Nd.fresh, Nd.own, newK, up]
    split <;> (try split) <;> omega
/-- Ages are no greater than those told. -/
def Cap (s : NS) (T : Nat → Int) : Prop := ∀ k, k < 6 → s.wS k ≤ T k ∧ s.bS k ≤ T k ∧ ∀ f, f < 6 → s.hS f k ≤ T k
theorem Cap.pick {s : NS} {T : Nat → Int} {k : Nat} (hk : k < 6) (h : Cap s T) : Cap (pick s k) T := by
  unfold Nd.pick
  split
  · exact h
  · have key2 : (choose s k 6).seq ≤ T k := by
      rcases choose_cases s k with e | ⟨t, ht, hm, e⟩
      · rw [e]; exact (h k hk).2.1
      · rw [e]; exact (h k hk).2.2 t ht
    generalize choose s k 6 = w at *
    intro j hj
    obtain ⟨a, b, c⟩ := h j hj
    refine ⟨?_, ?_, c⟩
    · simp only [lay, up]; split
      · rename_i e; rw [e]; exact key2
      · exact a
    · simp only [lay]; split
      · unfold up; split
        · rename_i e; rw [e]; exact key2
        · exact b
      · exact b
theorem Cap.all {s : NS} {T : Nat → Int} (h : Cap s T) : ∀ k, k ≤ 6 → Cap (all s k) T
  | 0, _ => h
  | k + 1, hk => Cap.pick (by omega) (Cap.all h k (by omega))
theorem Cap.linkC {s : NS} {T : Nat → Int} (h : Cap s T) (h0 : ∀ k, k < 6 → 0 ≤ T k) (who c : Int) : Cap (linkC s who c).1 T := by
  unfold Nd.linkC; split
  · exact h
  · show Cap (link s who.toNat c) T
    unfold Nd.link; dsimp only; split
    · refine Cap.all (s := forget { s with cost := up s.cost who.toNat c } who.toNat) (fun k hk => ⟨(h k hk).1, (h k hk).2.1, fun f hf => ?_⟩) 6 (by omega)
      have h1 := (h k hk).2.2 f hf
      have h2 := h0 k hk
      simp only [forget, forgetK]; split <;> omega
    · exact Cap.all (s := { s with cost := up s.cost who.toNat c }) h 6 (by omega)
theorem Cap.hearC {s : NS} {T : Nat → Int} (h : Cap s T) {f t q d : Int} (hq : q ≤ T t.toNat) : Cap (hearC s f t q d).1 T := by
  unfold Nd.hearC; split
  · exact h
  · rename_i hb
    simp only [hearBad] at hb
    split
    · exact h
    · refine Cap.pick (s := { s with hS := up2 s.hS f.toNat t.toNat q, hD := up2 s.hD f.toNat t.toNat d }) (by omega) (fun k hk => ⟨(h k hk).1, (h k hk).2.1, fun g hg => ?_⟩)
      have h1 := (h k hk).2.2 g hg
      simp only [up2]; split
      · rename_i e; rw [e.2]; exact hq
      · exact h1
theorem Cap.mono {s : NS} {T U : Nat → Int} (h : Cap s T) (hT : ∀ k, k < 6 → T k ≤ U k) : Cap s U := fun k hk => by
  obtain ⟨a, b, c⟩ := h k hk
  have := hT k hk
  exact ⟨by omega, by omega, fun f hf => by have := c f hf; omega⟩
theorem Cap.tick {s : NS} {T U : Nat → Int} (h : Cap s T) (hT : ∀ k, k < 6 → T k ≤ U k) (hm : s.wS s.me + 1 ≤ U s.me) : Cap (tick s) U := fun k hk => by
  obtain ⟨a, b, c⟩ := Cap.mono h hT k hk
  refine ⟨?_, ?_, c⟩
  · simp only [Nd.tick, Nd.own, up]; split
    · rename_i e; rw [e]; exact hm
    · exact a
  · simp only [Nd.tick, Nd.own, up]; split
    · rename_i e; rw [e]; simpa using hm
    · exact b
theorem fresh_cap {me : Nat} (_hm : me < 6) {T : Nat → Int} (h : ∀ k, k < 6 → 0 ≤ T k) : Cap (fresh me) T := fun k hk => by
  have := h k hk
  refine ⟨?_, ?_, fun f hf => ?_⟩
  · simp only [Nd.fresh, Nd.own, newK]; exact this
  · simp only [Nd.fresh, Nd.own, newK, up]; split <;> simpa using this
  · simp only [Nd.fresh, Nd.own, newK]; exact this
end Go.Proofs.Ytdpgbgapelgomaa.Nd
