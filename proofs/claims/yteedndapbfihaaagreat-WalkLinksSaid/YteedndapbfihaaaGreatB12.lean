/- What steps keep in a net: heard is no better than the best of who said it; ages are counted at home. -/
import Derived.Test.YteedndapbfihaaaGreatB9
namespace Go.Proofs.YteedndapbfihaaaGreat.Nd

/-- What is told of each way is no better than the best. -/
structure W2 (s : NS) : Prop where
  told : ∀ k, k < 6 → betB (s.wS k) (s.wD k) (s.bS k) (s.bD k) = false
  bD : ∀ k, k < 6 → s.bD k ≤ 200
theorem closed {P : NS → Prop} (hp : ∀ s k, k < 6 → Ok s → P s → P (pick s k)) (hs : ∀ s s' : NS, s'.me = s.me → s'.bS = s.bS → s'.bD = s.bD → s'.wS = s.wS → s'.wD = s.wD → s'.wH = s.wH → P s → P s') {s : NS} (ok : Ok s) (h : P s) :
    (∀ who c, P (linkC s who c).1) ∧ ∀ f t q d, P (hearC s f t q d).1 := by
  have hall : ∀ (s : NS), Ok s → P s → ∀ k, k ≤ 6 → P (all s k) := by
    intro s ok h k
    induction k with
    | zero => intro _; exact h
    | succ k ih => intro hk; exact hp _ k (by omega) (ok.all k) (ih (by omega))
  refine ⟨fun who c => ?_, fun f t q d => ?_⟩
  · unfold Nd.linkC; split
    · exact h
    · rename_i hb
      simp only [linkBad] at hb
      show P (link s who.toNat c)
      unfold Nd.link; dsimp only; split
      · exact hall _ (Ok.forget (Ok.cost' ok _ c (by omega) (by omega)) _) (hs s _ rfl rfl rfl rfl rfl rfl h) 6 (by omega)
      · exact hall _ (Ok.cost' ok _ c (by omega) (by omega)) (hs s _ rfl rfl rfl rfl rfl rfl h) 6 (by omega)
  · unfold Nd.hearC; split
    · exact h
    · rename_i hb
      simp only [hearBad] at hb
      split
      · exact h
      · exact hp _ _ (by omega) (ok.heard _ _ q d (by omega) (by omega) (by omega)) (hs s _ rfl rfl rfl rfl rfl rfl h)
theorem W2.pick {s : NS} {k : Nat} (hk : k < 6) (h : W2 s) : W2 (pick s k) := by
  unfold Nd.pick
  split
  · exact h
  · have key2 : (choose s k 6).hop = -1 ∧ (choose s k 6).seq = s.bS k ∧ (choose s k 6).dist = 200 ∨ (choose s k 6).hop ≠ -1 ∧ (choose s k 6).dist < 200 := by
      rcases choose_cases s k with e | ⟨t, ht, hm, e⟩
      · rw [e]; exact .inl ⟨rfl, rfl, rfl⟩
      · rw [e]
        simp only [may, Bool.and_eq_true, decide_eq_true_eq] at hm
        exact .inr ⟨by simp only [key]; omega, hm.1.2⟩
    have hb := h.bD k hk
    generalize choose s k 6 = w at *
    refine ⟨fun j hj => ?_, fun j hj => ?_⟩
    · by_cases e : j = k
      · subst e
        simp only [lay, up_same]
        split
        · rw [up_same, up_same, betB_no]; omega
        · rename_i hn
          rcases key2 with ⟨h1, h2, h3⟩ | ⟨h1, h2⟩
          · rw [h2, h3, betB_no]; omega
          · cases hc : betB w.seq w.dist (s.bS j) (s.bD j)
            · rfl
            · exact absurd ⟨h1, hc⟩ hn
      · have := h.told j hj
        simp only [lay]
        split <;> simp [up, e, this]
    · have := h.bD j hj
      simp only [lay]
      split
      · unfold up; split
        · rename_i hh _; rcases key2 with ⟨h1, h2, h3⟩ | ⟨h1, h2⟩ <;> omega
        · exact this
      · exact this
theorem W2.both {s : NS} (ok : Ok s) (h : W2 s) : (∀ who c, W2 (linkC s who c).1) ∧ ∀ f t q d, W2 (hearC s f t q d).1 :=
  closed (P := W2) (fun _ _ hk _ h => W2.pick hk h) (fun s s' _ e1 e2 e3 e4 _ h => ⟨by rw [e1, e2, e3, e4]; exact h.told, by rw [e2]; exact h.bD⟩) ok h
theorem W2.tick {s : NS} (h : W2 s) : W2 (tick s) := by
  refine ⟨fun k hk => ?_, fun k hk => ?_⟩
  · by_cases e : k = s.me
    · subst e
      have e1 : (Nd.tick s).wS s.me = s.wS s.me + 1 := tick_wSme s
      have e2 : (Nd.tick s).wD s.me = 0 := by simp [Nd.tick, Nd.own]
      have e3 : (Nd.tick s).bS s.me = s.wS s.me + 1 := by simp [Nd.tick, Nd.own]
      have e4 : (Nd.tick s).bD s.me = 0 := by simp [Nd.tick, Nd.own]
      rw [e1, e2, e3, e4, betB_no]; omega
    · have := h.told k hk
      simpa [Nd.tick, Nd.own, up, e] using this
  · have := h.bD k hk
    simp only [Nd.tick, Nd.own, up]; split <;> omega
theorem W2.fresh {me : Nat} : W2 (fresh me) := by
  refine ⟨fun k hk => ?_, fun k hk => ?_⟩
  · rw [betB_no]
    simp only [Nd.fresh, Nd.own, newK, up]
    split <;> (try split) <;> omega
  · simp only [Nd.fresh, Nd.own, newK, up]
    split <;> (try split) <;> omega
/-- Ages are no greater than those told. -/
def Cap (s : NS) (T : Nat → Int) : Prop := ∀ k, k < 6 → s.wS k ≤ T k ∧ s.bS k ≤ T k ∧ ∀ f, f < 6 → s.hS f k ≤ T k
theorem Cap.pick {s : NS} {T : Nat → Int} {k : Nat} (hk : k < 6) (h : Cap s T) : Cap (pick s k) T := by
  unfold Nd.pick
  split
  · exact h
  · have key2 : (choose s k 6).seq ≤ T k := by
      rcases choose_cases s k with e | ⟨t, ht, hm, e⟩
      · rw [e]; exact (h k hk).2.1
      · rw [e]; exact (h k hk).2.2 t ht
    generalize choose s k 6 = w at *
    intro j hj
    obtain ⟨a, b, c⟩ := h j hj
    refine ⟨?_, ?_, c⟩
    · simp only [lay, up]; split
      · rename_i e; rw [e]; exact key2
      · exact a
    · simp only [lay]; split
      · unfold up; split
        · rename_i e; rw [e]; exact key2
        · exact b
      · exact b
theorem Cap.all {s : NS} {T : Nat → Int} (h : Cap s T) : ∀ k, k ≤ 6 → Cap (all s k) T
  | 0, _ => h
  | k + 1, hk => Cap.pick (by omega) (Cap.all h k (by omega))
theorem Cap.linkC {s : NS} {T : Nat → Int} (h : Cap s T) (h0 : ∀ k, k < 6 → 0 ≤ T k) (who c : Int) : Cap (linkC s who c).1 T := by
  unfold Nd.linkC; split
  · exact h
  · show Cap (link s who.toNat c) T
    unfold Nd.link; dsimp only; split
    · refine Cap.all (s := forget { s with cost := up s.cost who.toNat c } who.toNat) (fun k hk => ⟨(h k hk).1, (h k hk).2.1, fun f hf => ?_⟩) 6 (by omega)
      have h1 := (h k hk).2.2 f hf
      have h2 := h0 k hk
      simp only [forget, forgetK]; split <;> omega
    · exact Cap.all (s := { s with cost := up s.cost who.toNat c }) h 6 (by omega)
theorem Cap.hearC {s : NS} {T : Nat → Int} (h : Cap s T) {f t q d : Int} (hq : q ≤ T t.toNat) : Cap (hearC s f t q d).1 T := by
  unfold Nd.hearC; split
  · exact h
  · rename_i hb
    simp only [hearBad] at hb
    split
    · exact h
    · refine Cap.pick (s := { s with hS := up2 s.hS f.toNat t.toNat q, hD := up2 s.hD f.toNat t.toNat d }) (by omega) (fun k hk => ⟨(h k hk).1, (h k hk).2.1, fun g hg => ?_⟩)
      have h1 := (h k hk).2.2 g hg
      simp only [up2]; split
      · rename_i e; rw [e.2]; exact hq
      · exact h1
theorem Cap.mono {s : NS} {T U : Nat → Int} (h : Cap s T) (hT : ∀ k, k < 6 → T k ≤ U k) : Cap s U := fun k hk => by
  obtain ⟨a, b, c⟩ := h k hk
  have := hT k hk
  exact ⟨by omega, by omega, fun f hf => by have := c f hf; omega⟩
theorem Cap.tick {s : NS} {T U : Nat → Int} (h : Cap s T) (hT : ∀ k, k < 6 → T k ≤ U k) (hm : s.wS s.me + 1 ≤ U s.me) : Cap (tick s) U := fun k hk => by
  obtain ⟨a, b, c⟩ := Cap.mono h hT k hk
  refine ⟨?_, ?_, c⟩
  · simp only [Nd.tick, Nd.own, up]; split
    · rename_i e; rw [e]; exact hm
    · exact a
  · simp only [Nd.tick, Nd.own, up]; split
    · rename_i e; rw [e]; simpa using hm
    · exact b
theorem fresh_cap {me : Nat} (_hm : me < 6) {T : Nat → Int} (h : ∀ k, k < 6 → 0 ≤ T k) : Cap (fresh me) T := fun k hk => by
  have := h k hk
  refine ⟨?_, ?_, fun f hf => ?_⟩
  · simp only [Nd.fresh, Nd.own, newK]; exact this
  · simp only [Nd.fresh, Nd.own, newK, up]; split <;> simpa using this
  · simp only [Nd.fresh, Nd.own, newK]; exact this
end Go.Proofs.YteedndapbfihaaaGreat.Nd
/- What steps keep in a net. -/
namespace Go.Proofs.YteedndapbfihaaaGreat.Nt
open Nd

/-- The age that a node tells of itself. -/
def age (t : NT) (k : Nat) : Int := (t.N k).wS k
structure Nice (s : NS) : Prop where
  bst : Bst s
  wy : Wy s
  w2 : W2 s
theorem Nice.fresh {me : Nat} (h : me < 6) : Nice (fresh me) := ⟨Bst.fresh h, Wy.fresh me, W2.fresh⟩
theorem Nice.linkC {s : NS} (h : Nice s) (ok : Ok s) (who c : Int) : Nice (linkC s who c).1 := ⟨h.bst.linkC who c, h.wy.linkC ok who c, (W2.both ok h.w2).1 who c⟩
theorem Nice.hearC {s : NS} (h : Nice s) (ok : Ok s) (f t q d : Int) : Nice (hearC s f t q d).1 := ⟨h.bst.hearC f t q d, h.wy.hearC ok f t q d, (W2.both ok h.w2).2 f t q d⟩
theorem Nice.tick {s : NS} (h : Nice s) (h0 : 0 ≤ s.wS s.me) : Nice (tick s) := ⟨h.bst.tick, h.wy.tick h0, h.w2.tick⟩

/-- All that is said is no better than the best of who said it, no younger than its own age. -/
structure Str (t : NT) (n : Nat) : Prop where
  ok : NOk t n
  nice : ∀ b, b < 6 → Nice (t.N b)
  cost : ∀ a b, a < 6 → b < 6 → (t.N a).cost b = t.C a b
  cap : ∀ a, a < 6 → Cap (t.N a) (age t)
  heard : ∀ a f k, a < 6 → f < 6 → k < 6 → betB ((t.N a).hS f k) ((t.N a).hD f k) ((t.N f).bS k) ((t.N f).bD k) = false
  news : ∀ x ∈ t.news, isN x.a ∧ isN x.t ∧ x.a ≠ x.g ∧ x.q ≤ age t x.t.toNat ∧ betB x.q x.d ((t.N x.a.toNat).bS x.t.toNat) ((t.N x.a.toNat).bD x.t.toNat) = false
theorem betB_low {s : NS} (h : Nice s) {k : Nat} (hk : k < 6) : betB 0 200 (s.bS k) (s.bD k) = false := by
  have h1 := h.wy.bS k hk
  have h2 := h.w2.bD k hk
  rw [betB_no]; omega
theorem betB_trans {a b c d e f : Int} (h1 : betB a b c d = false) (h2 : betB c d e f = false) : betB a b e f = false := by
  rw [betB_no] at *; omega
theorem Str.begun : Str begun 0 where
  ok := NOk.begun
  nice b hb := Nice.fresh hb
  cost a b _ _ := by simp [Nt.begun, fresh, own, newK]
  cap a ha := fresh_cap ha (fun k _ => by simp [age, Nt.begun, fresh, own, newK])
  heard a f k ha hf hk := by
    have h1 : ((Nt.begun.N a).hS f k) = 0 := by simp [Nt.begun, fresh, own, newK]
    have h2 : ((Nt.begun.N a).hD f k) = 200 := by simp [Nt.begun, fresh, own, newK, hf, hk]
    rw [h1, h2]
    exact betB_low (Nice.fresh (me := f) hf) hk
  news x hx := by cases hx
theorem Str.age0 {t : NT} {n : Nat} (h : Str t n) {k : Nat} (hk : k < 6) : 0 ≤ age t k := by
  have := (h.ok.run k hk).lo
  rw [h.ok.me k hk] at this
  exact this
/-- One node turned, none of its ages fell, its bests did not become worse. -/
theorem Str.upd {t : NT} {n m : Nat} (h : Str t n) {b : Nat} (hb : b < 6) {s : NS} (hok : NOk { t with N := upN t.N b s } m) (hs : Nice s) (hc : ∀ k, k < 6 → s.cost k = (t.N b).cost k)
    (hw : (t.N b).wS b ≤ s.wS b) (hcap : Cap s (fun k => if k = b then s.wS b else age t k)) (hnw : ∀ k, k < 6 → NW (t.N b) s k)
    (hh : ∀ f k, f < 6 → k < 6 → betB (s.hS f k) (s.hD f k) ((t.N f).bS k) ((t.N f).bD k) = false) : Str { t with N := upN t.N b s } m := by
  have hage : ∀ k, age { t with N := upN t.N b s } k = if k = b then s.wS b else age t k := by
    intro k
    show (upN t.N b s k).wS k = _
    by_cases e : k = b
    · subst e; rw [upN_same, if_pos rfl]
    · rw [upN_other _ _ _ _ e, if_neg e]; rfl
  have hle : ∀ k, age t k ≤ age { t with N := upN t.N b s } k := by
    intro k
    rw [hage]
    by_cases e : k = b
    · subst e; rw [if_pos rfl]; exact hw
    · rw [if_neg e]; omega
  have hbest : ∀ f k, f < 6 → k < 6 → NW (t.N f) (upN t.N b s f) k := by
    intro f k hf hk
    by_cases e : f = b
    · subst e; rw [upN_same]; exact hnw k hk
    · rw [upN_other _ _ _ _ e]; exact NW.refl _ _
  refine ⟨hok, fun a ha => ?_, fun a k ha hk => ?_, fun a ha => ?_, fun a f k ha hf hk => ?_, fun x hx => ?_⟩
  · show Nice (upN t.N b s a)
    by_cases e : a = b
    · subst e; rw [upN_same]; exact hs
    · rw [upN_other _ _ _ _ e]; exact h.nice a ha
  · show (upN t.N b s a).cost k = t.C a k
    by_cases e : a = b
    · subst e; rw [upN_same, hc k hk]; exact h.cost a k ha hk
    · rw [upN_other _ _ _ _ e]; exact h.cost a k ha hk
  · show Cap (upN t.N b s a) _
    by_cases e : a = b
    · subst e; rw [upN_same]; exact hcap.mono (fun k _ => by rw [hage]; exact Int.le_refl _)
    · rw [upN_other _ _ _ _ e]; exact (h.cap a ha).mono (fun k _ => hle k)
  · show betB ((upN t.N b s a).hS f k) ((upN t.N b s a).hD f k) ((upN t.N b s f).bS k) ((upN t.N b s f).bD k) = false
    have h1 : betB ((upN t.N b s a).hS f k) ((upN t.N b s a).hD f k) ((t.N f).bS k) ((t.N f).bD k) = false := by
      by_cases e : a = b
      · subst e; rw [upN_same]; exact hh f k hf hk
      · rw [upN_other _ _ _ _ e]; exact h.heard a f k ha hf hk
    exact betB_trans h1 (hbest f k hf hk)
  · obtain ⟨h1, h2, h3, h4, h5⟩ := h.news x hx
    unfold isN at h1 h2
    refine ⟨h1, h2, h3, Int.le_trans h4 (hle _), betB_trans h5 (hbest _ _ (by omega) (by omega))⟩
theorem hearC_heard {s : NS} (f t q d : Int) (g k : Nat) : ((hearC s f t q d).1.hS g k = s.hS g k ∧ (hearC s f t q d).1.hD g k = s.hD g k) ∨ ((hearC s f t q d).1.hS g k = q ∧ (hearC s f t q d).1.hD g k = d ∧ g = f.toNat ∧ k = t.toNat) := by
  unfold Nd.hearC; split
  · exact .inl ⟨rfl, rfl⟩
  · split
    · exact .inl ⟨rfl, rfl⟩
    · unfold hear
      have h1 := pick_heard { s with hS := up2 s.hS f.toNat t.toNat q, hD := up2 s.hD f.toNat t.toNat d } t.toNat
      rw [h1.1, h1.2.1]
      simp only [up2]
      by_cases e : g = f.toNat ∧ k = t.toNat
      · exact .inr ⟨if_pos e, if_pos e, e.1, e.2⟩
      · exact .inl ⟨if_neg e, if_neg e⟩
theorem linkC_heard {s : NS} (who c : Int) (g k : Nat) : ((linkC s who c).1.hS g k = s.hS g k ∧ (linkC s who c).1.hD g k = s.hD g k) ∨ ((linkC s who c).1.hS g k = 0 ∧ (linkC s who c).1.hD g k = 200) := by
  unfold Nd.linkC; split
  · exact .inl ⟨rfl, rfl⟩
  · show ((link s who.toNat c).hS g k = _ ∧ _) ∨ ((link s who.toNat c).hS g k = _ ∧ _)
    unfold Nd.link; dsimp only; split
    · rw [(all_heard _ 6).1, (all_heard _ 6).2.1]
      simp only [forget, forgetK]
      by_cases e : g = who.toNat ∧ k < 6
      · exact .inr ⟨if_pos e, if_pos e⟩
      · exact .inl ⟨if_neg e, if_neg e⟩
    · rw [(all_heard _ 6).1, (all_heard _ 6).2.1]
      exact .inl ⟨rfl, rfl⟩
/-- No step of another kind: what holds of the news that are left. -/
theorem Str.sub {t : NT} {n : Nat} (h : Str t n) {l : List Nw} (hl : ∀ x ∈ l, x ∈ t.news) (hlen : l.length ≤ 40) : Str { t with news := l } n :=
  ⟨⟨h.ok.me, h.ok.run, h.ok.cost, fun x hx => h.ok.g x (hl x hx), hlen⟩, h.nice, h.cost, h.cap, h.heard, fun x hx => h.news x (hl x hx)⟩
theorem Str.mono {t : NT} {n m : Nat} (h : Str t n) (hm : n ≤ m) : Str t m := ⟨h.ok.mono hm, h.nice, h.cost, h.cap, h.heard, h.news⟩
theorem Str.heardT {t : NT} {n : Nat} (h : Str t n) {x : Nw} (hg : isN x.g) (hx : isN x.a ∧ isN x.t ∧ x.a ≠ x.g ∧ x.q ≤ age t x.t.toNat ∧ betB x.q x.d ((t.N x.a.toNat).bS x.t.toNat) ((t.N x.a.toNat).bD x.t.toNat) = false) : Str (Nt.heard t x).1 n := by
  obtain ⟨_, h2, _, h4, h5⟩ := hx
  have hok := NOk.heard h.ok hg
  unfold isN at hg h2
  have hb : x.g.toNat < 6 := by omega
  have hme := h.ok.me _ hb
  have hwS := hearC_wSme (t.N x.g.toNat) x.a x.t x.q x.d
  rw [hme] at hwS
  refine h.upd hb hok ((h.nice _ hb).hearC (h.ok.run _ hb).ok _ _ _ _) (fun k _ => by rw [hearC_cost]) (by rw [hwS]; omega) ?_ (fun k hk => NW.hearC _ _ _ _ _ _) (fun f k hf hk => ?_)
  · have := (h.cap _ hb).hearC (f := x.a) (t := x.t) (q := x.q) (d := x.d) h4
    refine this.mono (fun k _ => ?_)
    by_cases e : k = x.g.toNat
    · rw [if_pos e, hwS, e]; exact Int.le_refl _
    · rw [if_neg e]; exact Int.le_refl _
  · rcases hearC_heard (s := t.N x.g.toNat) x.a x.t x.q x.d f k with ⟨e1, e2⟩ | ⟨e1, e2, e3, e4⟩
    · rw [e1, e2]; exact h.heard _ f k hb hf hk
    · rw [e1, e2, e3, e4]; exact h5
theorem Str.tickOk {t : NT} {n a : Nat} (h : Str t n) (ha : a < 6) : Str (tickOk t a) (n + 1) := by
  have hme := h.ok.me _ ha
  have hwS := tick_wSme (t.N a)
  rw [hme] at hwS
  refine h.upd ha (h.ok.tickOk ha) ((h.nice a ha).tick (h.ok.run a ha).lo) (fun k _ => rfl) (by rw [hwS]; omega) ?_ (fun k hk => NW.tick (h.nice a ha).bst k) (fun f k hf hk => h.heard a f k ha hf hk)
  refine (h.cap a ha).tick (fun k _ => ?_) ?_
  · by_cases e : k = a
    · subst e; rw [if_pos rfl, hwS]; unfold age; omega
    · rw [if_neg e]; omega
  · rw [hme, if_pos rfl, hwS]; omega
theorem Str.tellT {t : NT} {n : Nat} (h : Str t n) (a b : Int) : Str (tellT t a b).1 n := by
  have hok := h.ok.tellT a b
  unfold Nt.tellT at *
  split at hok
  · rename_i h1; rw [if_pos h1]; exact h
  · rename_i h1
    rw [if_neg h1]
    split at hok
    · rename_i h2; rw [if_pos h2]; exact h
    · rename_i h2
      rw [if_neg h2]
      split at hok
      · rename_i h3; rw [if_pos h3]; exact h
      · rename_i h3
        rw [if_neg h3]
        have hab := Classical.not_not.1 h1
        obtain ⟨⟨a0, a1⟩, ⟨b0, b1⟩⟩ := hab
        obtain ⟨p, rfl⟩ := Int.eq_ofNat_of_zero_le a0
        obtain ⟨q, rfl⟩ := Int.eq_ofNat_of_zero_le b0
        rw [Int.toNat_natCast, Int.toNat_natCast] at h2
        have hp : p < 6 := by omega
        have hpq : p ≠ q := fun e => by subst e; exact h2 (h.ok.cost.self p hp)
        refine ⟨hok, h.nice, h.cost, h.cap, h.heard, fun x hx => ?_⟩
        rcases List.mem_append.1 hx with hx | hx
        · exact h.news x hx
        · rw [Int.toNat_natCast] at hx
          simp only [tellW, List.mem_map, List.mem_range] at hx
          obtain ⟨k, hk, rfl⟩ := hx
          have hme := h.ok.me p hp
          refine ⟨⟨by dsimp only; omega, by dsimp only; omega⟩, ⟨by dsimp only; omega, by dsimp only; omega⟩, by dsimp only; omega, ?_, ?_⟩
          · dsimp only; rw [Int.toNat_natCast]; exact ((h.cap p hp) k hk).1
          · dsimp only; rw [Int.toNat_natCast, hme, Int.toNat_natCast]; exact (h.nice p hp).w2.told k hk
theorem Str.tellsT {n : Nat} (a : Int) : ∀ (l : List Nat) {t : NT}, Str t n → Str (tellsT t a l).1 n
  | [], _, h => h
  | b :: l, t, h => by
    rw [Nt.tellsT]; split
    · exact Str.tellsT a l (h.tellT a b)
    · exact h.tellT a b
theorem Str.linkOk {t : NT} {n a b : Nat} {c : Int} (h : Str t n) (ha : a < 6) (hb : b < 6) (hab : a ≠ b) (h0 : 0 ≤ c) (h1 : c ≤ 15) : Str (linkOk t a b c) n := by
  have key : ∀ (u v : Nat), u < 6 → v < 6 → u ≠ v → ∀ s : NS, s.me = u → Nice s → Run s n → (linkC s v c).1.cost = up s.cost v c ∧ (linkC s v c).1.wS u = s.wS u := by
    intro u v hu hv huv s hs hn hr
    have hc : (linkC s v c).2 = 0 := by
      unfold Nd.linkC
      rw [if_neg (by simp only [linkBad]; omega)]
    refine ⟨?_, ?_⟩
    · have := (linkC_cost_ok hc).2
      rwa [Int.toNat_natCast] at this
    · have := linkC_wSme s v c
      rwa [hs] at this
  obtain ⟨ka1, ka2⟩ := key a b ha hb hab (t.N a) (h.ok.me a ha) (h.nice a ha) (h.ok.run a ha)
  obtain ⟨kb1, kb2⟩ := key b a hb ha (Ne.symm hab) (t.N b) (h.ok.me b hb) (h.nice b hb) (h.ok.run b hb)
  -- all nodes, as they are then
  have hN : ∀ k, k < 6 → ∃ who, (upN (upN t.N a (Nd.linkC (t.N a) b c).1) b (Nd.linkC (t.N b) a c).1 k) = t.N k ∧ k ≠ a ∧ k ≠ b ∨ (k = a ∨ k = b) ∧ who < 6 ∧ (upN (upN t.N a (Nd.linkC (t.N a) b c).1) b (Nd.linkC (t.N b) a c).1 k) = (Nd.linkC (t.N k) ((who : Nat) : Int) c).1 ∧ (k = a → who = b) ∧ (k = b → who = a) := by
    intro k hk
    by_cases e : k = b
    · subst e
      exact ⟨a, .inr ⟨.inr rfl, ha, by rw [upN_same], fun h => absurd h.symm hab, fun _ => rfl⟩⟩
    · by_cases e' : k = a
      · subst e'
        exact ⟨b, .inr ⟨.inl rfl, hb, by rw [upN_other _ _ _ _ e, upN_same], fun _ => rfl, fun h => absurd h e⟩⟩
      · exact ⟨0, .inl ⟨by rw [upN_other _ _ _ _ e, upN_other _ _ _ _ e'], e', e⟩⟩
  have hage : ∀ k, k < 6 → age (Nt.linkOk t a b c) k = age t k := by
    intro k hk
    show (upN (upN t.N a _) b _ k).wS k = _
    obtain ⟨who, ⟨e, _⟩ | ⟨hh, _, e, e1, e2⟩⟩ := hN k hk
    · rw [e]; rfl
    · rw [e]
      have := linkC_wSme (t.N k) (who : Int) c
      rwa [h.ok.me k hk] at this
  have hnw : ∀ f k, f < 6 → NW (t.N f) (upN (upN t.N a (Nd.linkC (t.N a) b c).1) b (Nd.linkC (t.N b) a c).1 f) k := by
    intro f k hf
    obtain ⟨who, ⟨e, _⟩ | ⟨_, _, e, _⟩⟩ := hN f hf
    · rw [e]; exact NW.refl _ _
    · rw [e]; exact NW.linkC _ _ _ _
  refine ⟨h.ok.linkOk ha hb hab h0 h1, fun k hk => ?_, fun k j hk hj => ?_, fun k hk => ?_, fun k f j hk hf hj => ?_, fun x hx => ?_⟩
  · show Nice (upN (upN t.N a _) b _ k)
    obtain ⟨who, ⟨e, _⟩ | ⟨_, _, e, _⟩⟩ := hN k hk
    · rw [e]; exact h.nice k hk
    · rw [e]; exact (h.nice k hk).linkC (h.ok.run k hk).ok _ _
  · show (upN (upN t.N a _) b _ k).cost j = setC t.C a b c k j
    have hold := h.cost k j hk hj
    by_cases e : k = b
    · subst e
      rw [upN_same, kb1]
      simp only [up, setC, updC]
      by_cases e2 : j = a
      · rw [if_pos e2, if_pos ⟨trivial, e2⟩]
      · rw [if_neg e2, if_neg (fun h => e2 h.2), if_neg (fun h => hab h.1.symm)]; exact hold
    · by_cases e' : k = a
      · subst e'
        rw [upN_other _ _ _ _ e, upN_same, ka1]
        simp only [up, setC, updC]
        by_cases e2 : j = b
        · rw [if_pos e2, if_neg (fun h => e h.1), if_pos ⟨trivial, e2⟩]
        · rw [if_neg e2, if_neg (fun h => e h.1), if_neg (fun h => e2 h.2)]; exact hold
      · rw [upN_other _ _ _ _ e, upN_other _ _ _ _ e']
        simp only [setC, updC]
        rw [if_neg (fun h => e h.1), if_neg (fun h => e' h.1)]
        exact hold
  · show Cap (upN (upN t.N a _) b _ k) _
    have hc := (h.cap k hk).mono (U := age (Nt.linkOk t a b c)) (fun j hj => by rw [hage j hj]; exact Int.le_refl _)
    obtain ⟨who, ⟨e, _⟩ | ⟨_, _, e, _⟩⟩ := hN k hk
    · rw [e]; exact hc
    · rw [e]; exact hc.linkC (fun j hj => by rw [hage j hj]; exact h.age0 hj) _ _
  · show betB ((upN (upN t.N a _) b _ k).hS f j) ((upN (upN t.N a _) b _ k).hD f j) ((upN (upN t.N a _) b _ f).bS j) ((upN (upN t.N a _) b _ f).bD j) = false
    refine betB_trans ?_ (hnw f j hf)
    obtain ⟨who, ⟨e, _⟩ | ⟨_, _, e, _⟩⟩ := hN k hk
    · rw [e]; exact h.heard k f j hk hf hj
    · rw [e]
      rcases linkC_heard (s := t.N k) (who : Int) c f j with ⟨e1, e2⟩ | ⟨e1, e2⟩
      · rw [e1, e2]; exact h.heard k f j hk hf hj
      · rw [e1, e2]; exact betB_low (h.nice f hf) hj
  · obtain ⟨h1, h2, h3, h4, h5⟩ := h.news x hx
    have g1 := h1
    have g2 := h2
    unfold isN at g1 g2
    exact ⟨h1, h2, h3, by rw [hage _ (by omega)]; exact h4, betB_trans h5 (hnw _ _ (by omega))⟩
theorem lost_sub {t : NT} {k : Nat} {x : Nw} (h : x ∈ (lost t k).news) : x ∈ t.news := by
  rcases List.mem_append.1 h with h | h
  · exact List.mem_of_mem_take h
  · exact List.mem_of_mem_drop h
theorem Str.lost {t : NT} {n : Nat} (h : Str t n) (k : Nat) : Str (lost t k) n := h.sub (l := (Nt.lost t k).news) (fun _ hx => lost_sub hx) (h.ok.lost k).len
theorem Str.doT {t : NT} {n : Nat} (h : Str t n) (k a b c : Int) : Str (doT t k a b c).1 (n + 1) := by
  have hm := h.mono (Nat.le_succ n)
  unfold Nt.doT
  split
  · unfold Nt.linkT; split
    · exact hm
    · rename_i hb
      simp only [setBad, Classical.not_not] at hb
      exact hm.linkOk (by omega) (by omega) (by omega) (by omega) (by omega)
  · split
    · unfold Nt.tickT; split
      · exact hm
      · rename_i hn
        have hn : isN a := Classical.not_not.1 hn
        exact Str.tellsT a _ (h.tickOk (by unfold isN at hn; omega))
    · split
      · exact hm.tellT a b
      · split
        · unfold Nt.hearT; split
          · exact hm
          · rename_i ho
            have hx := nwAt_mem (out_no ho)
            exact Str.heardT (hm.lost _) (h.ok.g _ hx) (h.news _ hx)
        · split
          · unfold Nt.loseT; split
            · exact hm
            · exact hm.lost _
          · split
            · have hok := hm.ok.dblT c
              unfold Nt.dblT at *; split
              · exact hm
              · rename_i ho
                rw [if_neg ho] at hok
                split
                · exact hm
                · rename_i hl
                  rw [if_neg hl] at hok
                  refine hm.sub (fun x hx => ?_) hok.len
                  rcases List.mem_append.1 hx with hx | hx
                  · exact hx
                  · rw [List.mem_singleton.1 hx]; exact nwAt_mem (out_no ho)
            · exact hm
end Go.Proofs.YteedndapbfihaaaGreat.Nt
/- Settling: what it does, without any program. -/
namespace Go.Proofs.YteedndapbfihaaaGreat.Nt
open Nd

def tickK (t : NT) (k : Nat) : NT := ⟨fun j => if j < k then tick (t.N j) else t.N j, t.C, []⟩
def hearL (t : NT) (l : List Nw) : NT := l.foldl (fun t x => (heard t x).1) t
def tellB (t : NT) (a : Nat) (bs : List Nat) : NT := bs.foldl (fun t (b : Nat) => hearL t (tellW (t.N a) b 6)) t
def roundK (t : NT) : Nat → NT
  | 0 => t
  | k + 1 => tellB (roundK t k) k (ofL (roundK t k).C k 6)
def rounds (t : NT) : Nat → NT
  | 0 => t
  | k + 1 => roundK (rounds t k) 6
def settleT (t : NT) (r : Int) : NT := rounds (tickK t 6) r.toNat
theorem tickK_next (t : NT) (k : Nat) : { tickK t k with N := upN (tickK t k).N k (tick (t.N k)) } = tickK t (k + 1) := by
  have e : upN (tickK t k).N k (tick (t.N k)) = (tickK t (k + 1)).N := by
    funext j
    show (if j = k then tick (t.N k) else if j < k then tick (t.N j) else t.N j) = if j < k + 1 then tick (t.N j) else t.N j
    by_cases e : j = k
    · subst e; rw [if_pos rfl, if_pos (by omega)]
    · rw [if_neg e]
      by_cases h : j < k
      · rw [if_pos h, if_pos (by omega)]
      · rw [if_neg h, if_neg (by omega)]
  rw [e]; rfl
theorem NOk.tickK {t : NT} {n : Nat} (h : NOk t n) : ∀ k, k ≤ 6 → NOk (tickK t k) (n + 1)
  | 0, _ => ⟨fun k hk => h.me k hk, fun k hk => (h.run k hk).mono (Nat.le_succ n), h.cost, fun x hx => (by cases hx), by simp [Nt.tickK]⟩
  | k + 1, hk => by
    rw [← tickK_next]
    have := NOk.tickK h k (by omega)
    exact this.upd (by rw [tick_me]; exact h.me k (by omega)) (h.run k (by omega)).tick
theorem NOk.hearL {n : Nat} : ∀ (l : List Nw) {t : NT}, NOk t n → (∀ x ∈ l, isN x.g) → NOk (hearL t l) n
  | [], _, h, _ => h
  | x :: l, _, h, hl => NOk.hearL l (h.heard (hl x (by simp))) (fun y hy => hl y (by simp [hy]))
theorem tellW_g {s : NS} {b : Nat} (hb : b < 6) : ∀ x ∈ tellW s b 6, isN x.g := by
  intro x hx
  simp only [tellW, List.mem_map] at hx
  obtain ⟨k, _, rfl⟩ := hx
  exact ⟨by dsimp only; omega, by dsimp only; omega⟩
theorem NOk.tellB {n : Nat} (a : Nat) : ∀ (bs : List Nat) {t : NT}, NOk t n → (∀ b ∈ bs, b < 6) → NOk (tellB t a bs) n
  | [], _, h, _ => h
  | b :: bs, _, h, hl => NOk.tellB a bs (h.hearL _ (tellW_g (hl b (by simp)))) (fun y hy => hl y (by simp [hy]))
theorem ofL_lt {C : Nat → Nat → Int} {a b : Nat} (h : b ∈ ofL C a 6) : b < 6 := by
  simp only [ofL, List.mem_filter, List.mem_range] at h
  exact h.1
theorem NOk.roundK {t : NT} {n : Nat} (h : NOk t n) : ∀ k, NOk (roundK t k) n
  | 0 => h
  | k + 1 => (NOk.roundK h k).tellB k _ (fun _ hb => ofL_lt hb)
theorem NOk.rounds {t : NT} {n : Nat} (h : NOk t n) : ∀ k, NOk (rounds t k) n
  | 0 => h
  | k + 1 => (NOk.rounds h k).roundK 6
end Go.Proofs.YteedndapbfihaaaGreat.Nt
