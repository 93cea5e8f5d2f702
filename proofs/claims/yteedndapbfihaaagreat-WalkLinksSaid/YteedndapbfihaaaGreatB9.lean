/- A new node learns all that another one tells it. -/
import Derived.Test.YteedndapbfihaaaGreatB8
import Derived.Test.YteedndapbfihaaaGreatB3
import Derived.Test.YteedndapbfihaaaGreatB2
namespace Go.Proofs.YteedndapbfihaaaGreat.Nd

/-- What always holds of the ways. -/
structure Wy (s : NS) : Prop where
  bS : ∀ k, k < 6 → 0 ≤ s.bS k
  wS : ∀ k, k < 6 → 0 ≤ s.wS k
  lo : ∀ k, k < 6 → 0 ≤ s.wD k
  hi : ∀ k, k < 6 → s.wD k ≤ 200
  drop : ∀ k, k < 6 → s.wH k = -1 → s.wD k = 200
theorem choose_cases (s : NS) (dst : Nat) : choose s dst 6 = none s dst ∨ ∃ t, t < 6 ∧ may s t dst = true ∧ choose s dst 6 = key s dst t := by
  rcases choose_spec s dst 6 with ⟨h1, _⟩ | ⟨t, ht, h1⟩
  · exact .inl h1
  · exact .inr ⟨t, ht.lt, ht.may, h1⟩
theorem Wy.pick {s : NS} (ok : Ok s) (h : Wy s) {dst : Nat} (hd : dst < 6) : Wy (pick s dst) := by
  unfold Nd.pick
  split
  · exact h
  · have key2 : (0 ≤ (choose s dst 6).seq ∧ 0 ≤ (choose s dst 6).dist ∧ (choose s dst 6).dist ≤ 200 ∧ ((choose s dst 6).hop = -1 → (choose s dst 6).dist = 200)) := by
      rcases choose_cases s dst with e | ⟨t, ht, hm, e⟩
      · rw [e]; exact ⟨h.bS dst hd, by simp [none], by simp [none], fun _ => rfl⟩
      · rw [e]
        have h1 := ok.hS t dst ht hd
        have h2 := ok.hD t dst ht hd
        have h3 := ok.cost t ht
        simp only [may, Bool.and_eq_true, decide_eq_true_eq] at hm
        exact ⟨h1, by simp only [key]; omega, by simp only [key]; omega, fun hh => by simp only [key] at hh; omega⟩
    generalize choose s dst 6 = w at *
    obtain ⟨a, b, c, d⟩ := key2
    refine ⟨fun k hk => ?_, fun k hk => ?_, fun k hk => ?_, fun k hk => ?_, fun k hk => ?_⟩
    · have := h.bS k hk
      simp only [lay]; split
      · unfold up; split <;> omega
      · exact this
    · have := h.wS k hk
      simp only [lay, up]; split <;> omega
    · have := h.lo k hk
      simp only [lay, up]; split <;> omega
    · have := h.hi k hk
      simp only [lay, up]; split <;> omega
    · have := h.drop k hk
      simp only [lay, up]; split
      · exact d
      · exact this
theorem Wy.all {s : NS} (ok : Ok s) (h : Wy s) : ∀ k, k ≤ 6 → Wy (all s k)
  | 0, _ => h
  | k + 1, hk => Wy.pick (ok.all k) (Wy.all ok h k (by omega)) (by omega)
theorem Wy.same {s s' : NS} (h : Wy s) (e1 : s'.bS = s.bS) (e2 : s'.wS = s.wS) (e3 : s'.wD = s.wD) (e4 : s'.wH = s.wH) : Wy s' :=
  ⟨by rw [e1]; exact h.bS, by rw [e2]; exact h.wS, by rw [e3]; exact h.lo, by rw [e3]; exact h.hi, by rw [e3, e4]; exact h.drop⟩
theorem Wy.link {s : NS} (ok : Ok s) (h : Wy s) (who : Nat) (c : Int) (h0 : 0 ≤ c) (h1 : c ≤ 15) : Wy (link s who c) := by
  unfold Nd.link
  dsimp only
  split
  · exact Wy.all (Ok.forget (Ok.cost' ok who c h0 h1) who) (h.same rfl rfl rfl rfl) 6 (by omega)
  · exact Wy.all (Ok.cost' ok who c h0 h1) (h.same rfl rfl rfl rfl) 6 (by omega)
theorem Wy.linkC {s : NS} (ok : Ok s) (h : Wy s) (who c : Int) : Wy (linkC s who c).1 := by
  unfold Nd.linkC; split
  · exact h
  · rename_i hb
    simp only [linkBad] at hb
    exact Wy.link ok h _ c (by omega) (by omega)
theorem Wy.hearC {s : NS} (ok : Ok s) (h : Wy s) (f t q d : Int) : Wy (hearC s f t q d).1 := by
  unfold Nd.hearC; split
  · exact h
  · rename_i hb
    simp only [hearBad] at hb
    split
    · exact h
    · exact Wy.pick (ok.heard _ _ q d (by omega) (by omega) (by omega)) (h.same rfl rfl rfl rfl) (by omega)
theorem Wy.tick {s : NS} (h : Wy s) (hw : 0 ≤ s.wS s.me) : Wy (tick s) := by
  refine ⟨fun k hk => ?_, fun k hk => ?_, fun k hk => ?_, fun k hk => ?_, fun k hk => ?_⟩
  · have := h.bS k hk
    simp only [Nd.tick, own, up, if_true]; split <;> omega
  · have := h.wS k hk
    simp only [Nd.tick, own, up]; split <;> omega
  · have := h.lo k hk
    simp only [Nd.tick, own, up]; split <;> omega
  · have := h.hi k hk
    simp only [Nd.tick, own, up]; split <;> omega
  · have := h.drop k hk
    simp only [Nd.tick, own, up]; split
    · intro hh; omega
    · exact this
theorem Wy.fresh (me : Nat) : Wy (fresh me) := by
  refine ⟨fun k hk => ?_, fun k hk => ?_, fun k hk => ?_, fun k hk => ?_, fun k hk => ?_⟩
  · simp only [Nd.fresh, own, newK, up]; split <;> omega
  · simp only [Nd.fresh, own, newK]; omega
  · simp only [Nd.fresh, own, newK, up, hk, if_true]; split <;> omega
  · simp only [Nd.fresh, own, newK, up, hk, if_true]; split <;> omega
  · simp only [Nd.fresh, own, newK, up, hk, if_true]; split
    · intro hh; omega
    · intro _; rfl
theorem Wy.step {s : NS} {n : Nat} (r : Run s n) (h : Wy s) (x0 x1 x2 x4 x5 x6 : Int) : Wy (stepN s x0 x1 x2 x4 x5 x6) := by
  unfold stepN
  split
  · exact Wy.linkC r.ok h _ _
  · split
    · exact Wy.hearC r.ok h _ _ _ _
    · split
      · exact Wy.tick h r.lo
      · exact h
/- The new one. -/
end Go.Proofs.YteedndapbfihaaaGreat.Nd
/- The best is never worse; a way is what was told, and was told better than the best. -/
namespace Go.Proofs.YteedndapbfihaaaGreat.Nd

structure WayOk (s : NS) (k : Nat) : Prop where
  via : s.wH k ≠ -1 → ∃ f : Nat, f < 6 ∧ s.wH k = (f : Int) ∧ 0 < s.cost f ∧ s.wS k = s.hS f k ∧ s.wD k = s.hD f k + s.cost f ∧ s.hD f k + s.cost f < 200 ∧ betB (s.hS f k) (s.hD f k) (s.bS k) (s.bD k) = true ∧ betB (s.wS k) (s.wD k) (s.bS k) (s.bD k) = false
theorem pick_wayOk {s : NS} (k : Nat) (hm : k ≠ s.me) : WayOk (pick s k) k := by
  constructor
  intro h
  rw [Nd.pick, if_neg hm] at *
  rcases choose_cases s k with e | ⟨t, ht, hmay, e⟩
  · rw [e] at h
    exact absurd (by simp only [lay, up_same]; rfl) h
  · rw [e] at *
    have hmay' := hmay
    simp only [may, Bool.and_eq_true, decide_eq_true_eq] at hmay
    obtain ⟨⟨h1, h2⟩, h3⟩ := hmay
    refine ⟨t, ht, by simp only [lay, key, up_same], h1, by simp only [lay, key, up_same], by simp only [lay, key, up_same], h2, ?_, ?_⟩
    · by_cases hb : (key s k t).hop ≠ -1 ∧ betB (key s k t).seq (key s k t).dist (s.bS k) (s.bD k) = true
      · simp only [lay, if_pos hb, up_same]
        rw [betB_iff]
        exact .inr ⟨rfl, by show s.hD t k < s.hD t k + s.cost t; omega⟩
      · simp only [lay, if_neg hb]
        exact h3
    · by_cases hb : (key s k t).hop ≠ -1 ∧ betB (key s k t).seq (key s k t).dist (s.bS k) (s.bD k) = true
      · simp only [lay, if_pos hb, up_same]
        rw [betB_no]; omega
      · simp only [lay, if_neg hb, up_same]
        cases hc : betB (key s k t).seq (key s k t).dist (s.bS k) (s.bD k)
        · rfl
        · exact absurd ⟨by simp only [key]; omega, hc⟩ hb
theorem pick_other {s : NS} {j k : Nat} (h : WayOk s j) (hj : j ≠ k) : WayOk (pick s k) j := by
  unfold Nd.pick
  split
  · exact h
  · constructor
    have hb1 : (lay s k (choose s k 6)).bS j = s.bS j := by simp only [lay]; split <;> simp [up, hj]
    have hb2 : (lay s k (choose s k 6)).bD j = s.bD j := by simp only [lay]; split <;> simp [up, hj]
    have h1 : (lay s k (choose s k 6)).wH j = s.wH j := up_other _ _ _ _ hj
    have h2 : (lay s k (choose s k 6)).wS j = s.wS j := up_other _ _ _ _ hj
    have h3 : (lay s k (choose s k 6)).wD j = s.wD j := up_other _ _ _ _ hj
    rw [hb1, hb2, h1, h2, h3]
    exact h.via
theorem all_wayOk (s : NS) : ∀ n j, j < n → j ≠ s.me → WayOk (all s n) j
  | 0, _, hj, _ => by omega
  | n + 1, j, hj, hm => by
    rw [Nd.all]
    by_cases e : j = n
    · subst e; exact pick_wayOk j (by rw [all_me]; exact hm)
    · exact pick_other (all_wayOk s n j (by omega) hm) e
/-- Best and age of itself. -/
structure Bst (s : NS) : Prop where
  way : ∀ k, k < 6 → k ≠ s.me → WayOk s k
  meS : s.bS s.me = s.wS s.me
  meD : s.bD s.me = 0
theorem pick_bme (s : NS) (k : Nat) : (pick s k).bS s.me = s.bS s.me ∧ (pick s k).bD s.me = s.bD s.me := by
  unfold Nd.pick; split
  · exact ⟨rfl, rfl⟩
  · rename_i hk
    have hne : s.me ≠ k := fun e => hk e.symm
    simp only [lay]; constructor <;> split <;> simp [up, hne]
theorem all_bme (s : NS) : ∀ n, (all s n).bS s.me = s.bS s.me ∧ (all s n).bD s.me = s.bD s.me
  | 0 => ⟨rfl, rfl⟩
  | n + 1 => by
    have h := pick_bme (all s n) n
    rw [all_me] at h
    rw [Nd.all, h.1, h.2]
    exact all_bme s n
theorem Bst.all {s : NS} (h1 : s.bS s.me = s.wS s.me) (h2 : s.bD s.me = 0) : Bst (all s 6) :=
  ⟨fun k hk hm => all_wayOk s 6 k hk (by rw [all_me] at hm; exact hm), by rw [all_me, (all_bme s 6).1, all_wSme]; exact h1, by rw [all_me, (all_bme s 6).2]; exact h2⟩
theorem Bst.linkC {s : NS} (h : Bst s) (who c : Int) : Bst (linkC s who c).1 := by
  unfold Nd.linkC; split
  · exact h
  · show Bst (link s who.toNat c)
    unfold Nd.link; dsimp only; split
    · exact Bst.all (s := forget { s with cost := up s.cost who.toNat c } who.toNat) h.meS h.meD
    · exact Bst.all (s := { s with cost := up s.cost who.toNat c }) h.meS h.meD
theorem Bst.hearC {s : NS} (h : Bst s) (f t q d : Int) : Bst (hearC s f t q d).1 := by
  unfold Nd.hearC; split
  · exact h
  · split
    · exact h
    · show Bst (pick { s with hS := up2 s.hS f.toNat t.toNat q, hD := up2 s.hD f.toNat t.toNat d } t.toNat)
      generalize f.toNat = x
      generalize t.toNat = y
      have hme : (pick { s with hS := up2 s.hS x y q, hD := up2 s.hD x y d } y).me = s.me := pick_me _ _
      refine ⟨fun k hk hm => ?_, ?_, ?_⟩
      · rw [hme] at hm
        by_cases e : k = y
        · subst e; exact pick_wayOk k hm
        · refine pick_other ⟨?_⟩ e
          intro hh
          obtain ⟨g, a1, a2, a3, a4, a5, a6, a7, a8⟩ := (h.way k hk hm).via hh
          have e1 : up2 s.hS x y q g k = s.hS g k := by simp [up2, e]
          have e2 : up2 s.hD x y d g k = s.hD g k := by simp [up2, e]
          exact ⟨g, a1, a2, a3, by show _ = up2 s.hS x y q g k; rw [e1]; exact a4, by show _ = up2 s.hD x y d g k + _; rw [e2]; exact a5, by show up2 s.hD x y d g k + _ < _; rw [e2]; exact a6, by show betB (up2 s.hS x y q g k) (up2 s.hD x y d g k) _ _ = _; rw [e1, e2]; exact a7, a8⟩
      · rw [hme]
        have h1 := (pick_bme { s with hS := up2 s.hS x y q, hD := up2 s.hD x y d } y).1
        have h2 := pick_wSme { s with hS := up2 s.hS x y q, hD := up2 s.hD x y d } y
        exact h1.trans (h.meS.trans h2.symm)
      · rw [hme]
        exact (pick_bme { s with hS := up2 s.hS x y q, hD := up2 s.hD x y d } y).2.trans h.meD
theorem Bst.tick {s : NS} (h : Bst s) : Bst (tick s) := by
  refine ⟨fun k hk hm => ⟨?_⟩, by simp [Nd.tick, own], by simp [Nd.tick, own]⟩
  have hm' : k ≠ s.me := hm
  have e1 : (Nd.tick s).wH k = s.wH k := by simp [Nd.tick, own, up, hm']
  have e2 : (Nd.tick s).wS k = s.wS k := by simp [Nd.tick, own, up, hm']
  have e3 : (Nd.tick s).wD k = s.wD k := by simp [Nd.tick, own, up, hm']
  have e4 : (Nd.tick s).bS k = s.bS k := by simp [Nd.tick, own, up, hm']
  have e5 : (Nd.tick s).bD k = s.bD k := by simp [Nd.tick, own, up, hm']
  rw [e1, e2, e3, e4, e5]
  exact (h.way k hk hm').via
theorem Bst.fresh {me : Nat} (_h : me < 6) : Bst (fresh me) := by
  refine ⟨fun k hk hm => ⟨fun hh => ?_⟩, by simp [Nd.fresh, own], by simp [Nd.fresh, own]⟩
  have hm' : k ≠ me := hm
  exact absurd (by simp [Nd.fresh, own, newK, up, hm', hk]) hh

/-- Not worse. -/
def NW (s s' : NS) (k : Nat) : Prop := betB (s.bS k) (s.bD k) (s'.bS k) (s'.bD k) = false
theorem NW.refl (s : NS) (k : Nat) : NW s s k := by unfold NW; rw [betB_no]; omega
theorem NW.trans {a b c : NS} {k : Nat} (h1 : NW a b k) (h2 : NW b c k) : NW a c k := by
  unfold NW at *; rw [betB_no] at *; omega
theorem NW.same {s s' : NS} {k : Nat} (e1 : s'.bS k = s.bS k) (e2 : s'.bD k = s.bD k) : NW s s' k := by unfold NW; rw [e1, e2, betB_no]; omega
theorem NW.pick (s : NS) (j k : Nat) : NW s (pick s j) k := by
  unfold Nd.pick; split
  · exact NW.refl _ _
  · by_cases hb : (choose s j 6).hop ≠ -1 ∧ betB (choose s j 6).seq (choose s j 6).dist (s.bS j) (s.bD j) = true
    · unfold NW
      simp only [lay, if_pos hb]
      by_cases e : k = j
      · subst e
        rw [up_same, up_same]
        have := hb.2
        rw [betB_iff] at this
        rw [betB_no]; omega
      · rw [up_other _ _ _ _ e, up_other _ _ _ _ e, betB_no]; omega
    · unfold NW
      simp only [lay, if_neg hb]
      rw [betB_no]; omega
theorem NW.all (s : NS) (k : Nat) : ∀ n, NW s (all s n) k
  | 0 => NW.refl _ _
  | n + 1 => (NW.all s k n).trans (NW.pick _ _ _)
theorem NW.linkC (s : NS) (who c : Int) (k : Nat) : NW s (linkC s who c).1 k := by
  unfold Nd.linkC; split
  · exact NW.refl _ _
  · show NW s (link s who.toNat c) k
    unfold Nd.link; dsimp only; split
    · exact (NW.same (s' := forget { s with cost := up s.cost who.toNat c } who.toNat) rfl rfl).trans (NW.all _ k 6)
    · exact (NW.same (s' := { s with cost := up s.cost who.toNat c }) rfl rfl).trans (NW.all _ k 6)
theorem NW.hearC (s : NS) (f t q d : Int) (k : Nat) : NW s (hearC s f t q d).1 k := by
  unfold Nd.hearC; split
  · exact NW.refl _ _
  · split
    · exact NW.refl _ _
    · exact (NW.same (s' := { s with hS := up2 s.hS f.toNat t.toNat q, hD := up2 s.hD f.toNat t.toNat d }) rfl rfl).trans (NW.pick _ _ _)
theorem NW.tick {s : NS} (h : Bst s) (k : Nat) : NW s (tick s) k := by
  by_cases e : k = s.me
  · subst e
    unfold NW
    have h1 := h.meS
    have h2 := h.meD
    have e4 : (Nd.tick s).bS s.me = s.wS s.me + 1 := by simp [Nd.tick, own]
    have e5 : (Nd.tick s).bD s.me = 0 := by simp [Nd.tick, own]
    rw [e4, e5, h1, h2, betB_no]; omega
  · exact NW.same (by simp [Nd.tick, own, up, e]) (by simp [Nd.tick, own, up, e])

theorem all_heard (s : NS) : ∀ n, (all s n).hS = s.hS ∧ (all s n).hD = s.hD ∧ (all s n).cost = s.cost
  | 0 => ⟨rfl, rfl, rfl⟩
  | n + 1 => by
    rw [Nd.all]
    obtain ⟨h1, h2, h3⟩ := all_heard s n
    unfold Nd.pick; split
    · exact ⟨h1, h2, h3⟩
    · exact ⟨h1, h2, h3⟩
theorem linkC_cost_ok {s : NS} {who c : Int} (h : (linkC s who c).2 = 0) : (0 ≤ who ∧ who < 6) ∧ (linkC s who c).1.cost = up s.cost who.toNat c := by
  unfold Nd.linkC at *
  split at h
  · simp at h
  · rename_i hb
    rw [if_neg hb]
    simp only [linkBad] at hb
    refine ⟨by omega, ?_⟩
    show (link s who.toNat c).cost = _
    unfold Nd.link; dsimp only; split <;> rw [(all_heard _ 6).2.2] <;> rfl
theorem pick_heard (s : NS) (k : Nat) : (pick s k).hS = s.hS ∧ (pick s k).hD = s.hD ∧ (pick s k).cost = s.cost := by
  unfold Nd.pick; split <;> exact ⟨rfl, rfl, rfl⟩
theorem hearC_cost (s : NS) (f t q d : Int) : (hearC s f t q d).1.cost = s.cost := by
  unfold Nd.hearC; split
  · rfl
  · split
    · rfl
    · exact (pick_heard _ _).2.2
theorem tick_heard (s : NS) : (tick s).hS = s.hS ∧ (tick s).hD = s.hD ∧ (tick s).cost = s.cost := ⟨rfl, rfl, rfl⟩

theorem Bst.step {s : NS} (h : Bst s) (x0 x1 x2 x4 x5 x6 : Int) : Bst (stepN s x0 x1 x2 x4 x5 x6) := by
  unfold stepN
  split
  · exact h.linkC _ _
  · split
    · exact h.hearC _ _ _ _
    · split
      · exact h.tick
      · exact h
theorem NW.step {s : NS} (h : Bst s) (x0 x1 x2 x4 x5 x6 : Int) (k : Nat) : NW s (stepN s x0 x1 x2 x4 x5 x6) k := by
  unfold stepN
  split
  · exact NW.linkC _ _ _ _
  · split
    · exact NW.hearC _ _ _ _ _ _
    · split
      · exact NW.tick h _
      · exact NW.refl _ _
end Go.Proofs.YteedndapbfihaaaGreat.Nd
/- A net: its nodes, its links, and news on their way; what steps do to it; no program. -/
namespace Go.Proofs.YteedndapbfihaaaGreat.Nt
open Nd

/-- News: who says, to whom, of whom, which age, how far. -/
structure Nw where
  a : Int
  g : Int
  t : Int
  q : Int
  d : Int
structure NT where
  N : Nat → NS
  C : Nat → Nat → Int
  news : List Nw
def upN (f : Nat → NS) (i : Nat) (s : NS) : Nat → NS := fun j => if j = i then s else f j
theorem upN_same (f : Nat → NS) (i : Nat) (s : NS) : upN f i s i = s := by simp [upN]
theorem upN_other (f : Nat → NS) (i j : Nat) (s : NS) (h : j ≠ i) : upN f i s j = f j := by simp [upN, h]
def begun : NT := ⟨fun k => fresh k, fun _ _ => 0, []⟩
def tellW (s : NS) (who : Int) (k : Nat) : List Nw := (List.range k).map fun (t : Nat) => ⟨s.me, who, t, s.wS t, s.wD t⟩
theorem tellW_len (s : NS) (who : Int) (k : Nat) : (tellW s who k).length = k := by simp [tellW]
def setBad (a b c : Int) : Prop := ¬ (0 ≤ a ∧ a < 6 ∧ 0 ≤ b ∧ b < 6 ∧ a ≠ b ∧ 0 ≤ c ∧ c ≤ 15)
instance (a b c : Int) : Decidable (setBad a b c) := by unfold setBad; infer_instance
def linkOk (t : NT) (a b : Nat) (c : Int) : NT := ⟨upN (upN t.N a (Nd.linkC (t.N a) b c).1) b (Nd.linkC (t.N b) a c).1, setC t.C a b c, t.news⟩
def linkT (t : NT) (a b c : Int) : NT × Int := if setBad a b c then (t, 1) else (linkOk t a.toNat b.toNat c, 0)
def isN (n : Int) : Prop := 0 ≤ n ∧ n < 6
instance (n : Int) : Decidable (isN n) := by unfold isN; infer_instance
def tellT (t : NT) (a b : Int) : NT × Int :=
  if ¬ (isN a ∧ isN b) then (t, 1) else if t.C a.toNat b.toNat = 0 then (t, 6) else if 40 < t.news.length + 6 then (t, 9) else ({ t with news := t.news ++ tellW (t.N a.toNat) b 6 }, 0)
/-- To one behind the other. -/
def tellsT (t : NT) (a : Int) : List Nat → NT × Int
  | [] => (t, 0)
  | b :: l => if (tellT t a b).2 = 0 then tellsT (tellT t a b).1 a l else tellT t a b
def tickOk (t : NT) (a : Nat) : NT := { t with N := upN t.N a (Nd.tick (t.N a)) }
def tickT (t : NT) (a : Int) : NT × Int := if ¬ isN a then (t, 1) else tellsT (tickOk t a.toNat) a (ofL t.C a.toNat 6)
def out (t : NT) (n : Int) : Prop := n < 0 ∨ (t.news.length : Int) ≤ n
instance (t : NT) (n : Int) : Decidable (out t n) := by unfold out; infer_instance
def lost (t : NT) (k : Nat) : NT := { t with news := t.news.take k ++ t.news.drop (k + 1) }
def loseT (t : NT) (n : Int) : NT × Int := if out t n then (t, 6) else (lost t n.toNat, 0)
def heard (t : NT) (x : Nw) : NT × Int := ({ t with N := upN t.N x.g.toNat (Nd.hearC (t.N x.g.toNat) x.a x.t x.q x.d).1 }, (Nd.hearC (t.N x.g.toNat) x.a x.t x.q x.d).2)
def nwAt (t : NT) (k : Nat) : Nw := t.news.getD k ⟨0, 0, 0, 0, 0⟩
def hearT (t : NT) (n : Int) : NT × Int := if out t n then (t, 6) else heard (lost t n.toNat) (nwAt t n.toNat)
def dblT (t : NT) (n : Int) : NT × Int := if out t n then (t, 6) else if t.news.length = 40 then (t, 9) else ({ t with news := t.news ++ [nwAt t n.toNat] }, 0)
def doT (t : NT) (k a b n : Int) : NT × Int :=
  if k = 1 then linkT t a b n else if k = 2 then tickT t a else if k = 3 then tellT t a b else if k = 4 then hearT t n else if k = 5 then loseT t n else if k = 6 then dblT t n else (t, 8)

/-- What holds of a net behind at most n steps. -/
structure NOk (t : NT) (n : Nat) : Prop where
  me : ∀ k, k < 6 → (t.N k).me = k
  run : ∀ k, k < 6 → Run (t.N k) n
  cost : Lk.CostOK t.C
  g : ∀ x ∈ t.news, isN x.g
  len : t.news.length ≤ 40
theorem NOk.begun : NOk begun 0 := ⟨fun _ _ => rfl, fun _ hk => Run.fresh hk, CostOK.zero, fun _ h => (by cases h), by simp [Nt.begun]⟩
theorem NOk.mono {t : NT} {n m : Nat} (h : NOk t n) (hm : n ≤ m) : NOk t m := ⟨h.me, fun k hk => (h.run k hk).mono hm, h.cost, h.g, h.len⟩
theorem NOk.upd {t : NT} {n : Nat} (h : NOk t n) {k : Nat} {s : NS} (hm : s.me = k) (hs : Run s n) : NOk { t with N := upN t.N k s } n where
  me j hj := by
    show (upN t.N k s j).me = j
    by_cases e : j = k
    · subst e; rw [upN_same]; exact hm
    · rw [upN_other _ _ _ _ e]; exact h.me j hj
  run j hj := by
    show Run (upN t.N k s j) n
    by_cases e : j = k
    · subst e; rw [upN_same]; exact hs
    · rw [upN_other _ _ _ _ e]; exact h.run j hj
  cost := h.cost
  g := h.g
  len := h.len
theorem NOk.linkOk {t : NT} {n : Nat} (h : NOk t n) {a b : Nat} {c : Int} (ha : a < 6) (hb : b < 6) (hab : a ≠ b) (h0 : 0 ≤ c) (h1 : c ≤ 15) : NOk (linkOk t a b c) n := by
  have k1 := h.upd (k := a) (s := (Nd.linkC (t.N a) b c).1) (by rw [linkC_me]; exact h.me a ha) ((h.run a ha).linkC b c)
  have k2 := k1.upd (k := b) (s := (Nd.linkC (t.N b) a c).1) (by rw [linkC_me]; exact h.me b hb) ((h.run b hb).linkC a c)
  exact ⟨k2.me, k2.run, CostOK.set h.cost hab h0 h1, h.g, h.len⟩
theorem NOk.linkT {t : NT} {n : Nat} (h : NOk t n) (a b c : Int) : NOk (linkT t a b c).1 n := by
  unfold Nt.linkT; split
  · exact h
  · rename_i hb
    simp only [setBad, Classical.not_not] at hb
    exact h.linkOk (by omega) (by omega) (by omega) (by omega) (by omega)
theorem NOk.tellT {t : NT} {n : Nat} (h : NOk t n) (a b : Int) : NOk (tellT t a b).1 n := by
  unfold Nt.tellT; split
  · exact h
  · rename_i hn
    have hn : isN a ∧ isN b := Classical.not_not.1 hn
    split
    · exact h
    · split
      · exact h
      · rename_i hl
        refine ⟨h.me, h.run, h.cost, fun x hx => ?_, by show (t.news ++ tellW _ b 6).length ≤ 40; rw [List.length_append, tellW_len]; omega⟩
        rcases List.mem_append.1 hx with hx | hx
        · exact h.g x hx
        · simp only [tellW, List.mem_map] at hx
          obtain ⟨k, _, rfl⟩ := hx
          exact hn.2
theorem NOk.tellsT {n : Nat} (a : Int) : ∀ (l : List Nat) {t : NT}, NOk t n → NOk (tellsT t a l).1 n
  | [], _, h => h
  | b :: l, t, h => by
    rw [Nt.tellsT]; split
    · exact NOk.tellsT a l (h.tellT a b)
    · exact h.tellT a b
theorem NOk.tickOk {t : NT} {n : Nat} (h : NOk t n) {a : Nat} (ha : a < 6) : NOk (tickOk t a) (n + 1) :=
  (h.mono (Nat.le_succ n)).upd (by rw [tick_me]; exact h.me a ha) (h.run a ha).tick
theorem NOk.tickT {t : NT} {n : Nat} (h : NOk t n) (a : Int) : NOk (tickT t a).1 (n + 1) := by
  unfold Nt.tickT; split
  · exact h.mono (Nat.le_succ n)
  · rename_i hn
    have hn : isN a := Classical.not_not.1 hn
    exact NOk.tellsT a _ (h.tickOk (by unfold isN at hn; omega))
theorem NOk.lost {t : NT} {n : Nat} (h : NOk t n) (k : Nat) : NOk (lost t k) n :=
  ⟨h.me, h.run, h.cost, fun x hx => by
    rcases List.mem_append.1 hx with hx | hx
    · exact h.g x (List.mem_of_mem_take hx)
    · exact h.g x (List.mem_of_mem_drop hx), by
    have := h.len
    show (t.news.take k ++ t.news.drop (k + 1)).length ≤ 40
    rw [List.length_append, List.length_take, List.length_drop]; omega⟩
theorem NOk.loseT {t : NT} {n : Nat} (h : NOk t n) (k : Int) : NOk (loseT t k).1 n := by
  unfold Nt.loseT; split
  · exact h
  · exact h.lost _
theorem nwAt_mem {t : NT} {k : Nat} (h : k < t.news.length) : nwAt t k ∈ t.news := by
  unfold nwAt; rw [List.getD_eq_getElem?_getD, List.getElem?_eq_getElem h]; exact List.getElem_mem h
theorem out_no {t : NT} {n : Int} (h : ¬ out t n) : n.toNat < t.news.length := by unfold out at h; omega
theorem NOk.heard {t : NT} {n : Nat} (h : NOk t n) {x : Nw} (hx : isN x.g) : NOk (heard t x).1 n := by
  unfold isN at hx
  have hk : x.g.toNat < 6 := by omega
  exact h.upd (by rw [hearC_me]; exact h.me _ hk) ((h.run _ hk).hearC _ _ _ _)
theorem NOk.hearT {t : NT} {n : Nat} (h : NOk t n) (k : Int) : NOk (hearT t k).1 n := by
  unfold Nt.hearT; split
  · exact h
  · rename_i ho
    exact NOk.heard (h.lost _) (h.g _ (nwAt_mem (out_no ho)))
theorem NOk.dblT {t : NT} {n : Nat} (h : NOk t n) (k : Int) : NOk (dblT t k).1 n := by
  unfold Nt.dblT; split
  · exact h
  · rename_i ho
    split
    · exact h
    · refine ⟨h.me, h.run, h.cost, fun x hx => ?_, by have := h.len; show (t.news ++ [nwAt t k.toNat]).length ≤ 40; rw [List.length_append]; simp; omega⟩
      rcases List.mem_append.1 hx with hx | hx
      · exact h.g x hx
      · rw [List.mem_singleton.1 hx]; exact h.g _ (nwAt_mem (out_no ho))
theorem NOk.doT {t : NT} {n : Nat} (h : NOk t n) (k a b c : Int) : NOk (doT t k a b c).1 (n + 1) := by
  have hm := h.mono (Nat.le_succ n)
  unfold Nt.doT
  split
  · exact hm.linkT a b c
  · split
    · exact h.tickT a
    · split
      · exact hm.tellT a b
      · split
        · exact hm.hearT c
        · split
          · exact hm.loseT c
          · split
            · exact hm.dblT c
            · exact hm
end Go.Proofs.YteedndapbfihaaaGreat.Nt
/- A net in memory. -/
namespace Go.Proofs.YteedndapbfihaaaGreat
open Go.RowKit Go.Deep

theorem rows_apart {w : World} {b b' : Nat} {t t' : TypeId} {n n' : Nat} {f f' : Nat → Value} (h : w.rowIs b t n f) (k : w.rowIs b' t' n' f') (ht : t ≠ t') : b ≠ b' := by
  rintro rfl
  obtain ⟨c, h1, _⟩ := h
  obtain ⟨d, k1, _⟩ := k
  rw [h1] at k1
  simp only [Option.some.injEq, Obj.cells.injEq] at k1
  exact ht k1.2.1
theorem row_own_apart {w : World} {b base : Nat} {t e : TypeId} {n size m : Nat} {f : Nat → Value} {v : Value} {xs : List Value} (h : w.rowIs b t n f) (k : w.ownsRow base e size v m xs) (ht : t ≠ e) : ¬ v.ownBlock = some b := by
  intro hb
  obtain ⟨c, h1, _⟩ := h
  rcases k.2 with ⟨rfl, _⟩ | ⟨g, cap, cur, rfl, _, k1, _⟩
  · cases hb
  · cases hb
    rw [h1] at k1
    simp only [Option.some.injEq, Obj.cells.injEq] at k1
    exact ht k1.2.1
def nwI (l : List Nt.Nw) : List Int := l.flatMap fun x => [x.a, x.g, x.t, x.q, x.d]
theorem nwI_len : ∀ l : List Nt.Nw, (nwI l).length = l.length * 5
  | [] => rfl
  | _ :: l => by
    have := nwI_len l
    simp only [nwI, List.flatMap_cons, List.length_append, List.length_cons, List.length_nil] at *
    omega
theorem nwI_app (l m : List Nt.Nw) : nwI (l ++ m) = nwI l ++ nwI m := by simp [nwI]
theorem nwI_take : ∀ (l : List Nt.Nw) (i : Nat), (nwI l).take (i * 5) = nwI (l.take i)
  | [], i => by simp [nwI]
  | x :: l, 0 => by simp [nwI]
  | x :: l, i + 1 => by
    have := nwI_take l i
    rw [show (i + 1) * 5 = 5 + i * 5 from by omega]
    simp only [nwI, List.flatMap_cons, List.take_succ_cons] at *
    rw [← this, List.take_append, List.take_of_length_le (by simp)]
    simp
theorem nwI_drop : ∀ (l : List Nt.Nw) (i : Nat), (nwI l).drop (i * 5) = nwI (l.drop i)
  | [], i => by simp [nwI]
  | x :: l, 0 => by simp [nwI]
  | x :: l, i + 1 => by
    have := nwI_drop l i
    rw [show (i + 1) * 5 = 5 + i * 5 from by omega]
    simp only [nwI, List.flatMap_cons, List.drop_succ_cons] at *
    rw [← this, List.drop_append, List.drop_of_length_le (by simp)]
    simp
theorem nwI_tell (s : Nd.NS) (who : Int) (k : Nat) : Nd.tellL s who k = nwI (Nt.tellW s who k) := by
  simp [Nd.tellL, Nt.tellW, nwI, List.flatMap_map]
def nwGet (l : List Nt.Nw) (k : Nat) : Nt.Nw := l.getD k ⟨0, 0, 0, 0, 0⟩
theorem nwI_at : ∀ (l : List Nt.Nw) (k : Nat), k < l.length → (nwI l).getD (k * 5) 0 = (nwGet l k).a ∧ (nwI l).getD (k * 5 + 1) 0 = (nwGet l k).g ∧ (nwI l).getD (k * 5 + 2) 0 = (nwGet l k).t ∧ (nwI l).getD (k * 5 + 3) 0 = (nwGet l k).q ∧ (nwI l).getD (k * 5 + 4) 0 = (nwGet l k).d
  | [], k, h => by simp at h
  | x :: l, 0, _ => ⟨rfl, rfl, rfl, rfl, rfl⟩
  | x :: l, k + 1, h => by
    have := nwI_at l k (by simpa using h)
    rw [show (k + 1) * 5 = k * 5 + 5 from by omega]
    exact this
theorem news_rd {w : World} {base : Nat} {v : Value} {n : Nat} {xs : List Int} (h : SlN w base v n xs) (j : Nat) (u : Value) (g : Nat) (hg : v.ownBlock = some g) (hu : (xs.map (Value.int .i64))[j]? = some u) : w.cell? ((⟨g, 0, none⟩ : Addr).add j) = some u := World.ownsRow.cells h hg j u hu
structure Ids where
  b : Nat
  L : Nat
  N : Nat → Nat
/-- A net's eight cells. -/
def netF (x : Ids) (v : Value) (i : Nat) : Value := if i = 0 then .pointer (some ⟨x.L, 0, none⟩) else if i < 7 then .pointer (some ⟨x.N (i - 1), 0, none⟩) else v
/-- The blocks of a net. -/
def Ft (x : Ids) (v : Value) (i : Nat) : Prop := i = x.b ∨ i = x.L ∨ (∃ k, k < 6 ∧ i = x.N k) ∨ v.ownBlock = some i
structure NtAt (w : World) (x : Ids) (v : Value) (t : Nt.NT) : Prop where
  net : w.rowIs x.b 80 8 (netF x v)
  links : CAt w x.L 108 t.C
  node : ∀ k, k < 6 → NAt w (x.N k) 136 (t.N k)
  news : SlN w 0 v t.news.length (nwI t.news)
  inj : ∀ j k, j < 6 → k < 6 → x.N j = x.N k → j = k
section
variable {w : World} {x : Ids} {v : Value} {t : Nt.NT} (h : NtAt w x v t)
include h
theorem NtAt.c0 : w.cell? ⟨x.b, 0, none⟩ = some (.pointer (some ⟨x.L, 0, none⟩)) := World.rowIs.cell h.net (i := 0) (by omega)
theorem NtAt.cN {k : Nat} (hk : k < 6) : w.cell? ⟨x.b, 1 + k, none⟩ = some (.pointer (some ⟨x.N k, 0, none⟩)) := by
  have := World.rowIs.cell h.net (i := 1 + k) (by omega)
  rw [netF, if_neg (by omega), if_pos (by omega), show 1 + k - 1 = k from by omega] at this
  exact this
theorem NtAt.c7 : w.cell? ⟨x.b, 7, none⟩ = some v := World.rowIs.cell h.net (i := 7) (by omega)
theorem NtAt.fz (i : Nat) : w.frozen? ⟨x.b, i, none⟩ = false := World.rowIs.frozen h.net i
theorem NtAt.bL : x.b ≠ x.L := rows_apart h.net h.links (by decide)
theorem NtAt.bN {k : Nat} (hk : k < 6) : x.b ≠ x.N k := rows_apart h.net (h.node k hk) (by decide)
theorem NtAt.LN {k : Nat} (hk : k < 6) : x.L ≠ x.N k := rows_apart h.links (h.node k hk) (by decide)
theorem NtAt.bv : ¬ v.ownBlock = some x.b := row_own_apart h.net h.news (by decide)
theorem NtAt.Lv : ¬ v.ownBlock = some x.L := row_own_apart h.links h.news (by decide)
theorem NtAt.Nv {k : Nat} (hk : k < 6) : ¬ v.ownBlock = some (x.N k) := row_own_apart (h.node k hk) h.news (by decide)
theorem NtAt.lt {i : Nat} (hi : Ft x v i) : i < w.heap.size := by
  rcases hi with rfl | rfl | ⟨k, hk, rfl⟩ | hi
  · exact World.rowIs.lt h.net
  · exact World.rowIs.lt h.links
  · exact (h.node k hk).lt
  · exact (World.ownsRow.lt h.news i hi).2
theorem NtAt.keep {S : Nat → Prop} {w' : World} (hf : Fr S w w') (hS : ∀ i, Ft x v i → ¬ S i) : NtAt w' x v t :=
  ⟨hf.row h.net (hS _ (.inl rfl)), hf.row h.links (hS _ (.inr (.inl rfl))), fun k hk => (h.node k hk).keep hf (hS _ (.inr (.inr (.inl ⟨k, hk, rfl⟩)))), own_keep h.news hf (fun g hg => hS g (.inr (.inr (.inr hg)))), h.inj⟩
theorem NtAt.keep0 {w' : World} (hf : Fr NoB w w') : NtAt w' x v t := h.keep hf (fun _ _ h => h)
/-- One node turned. -/
theorem NtAt.setN {k : Nat} (hk : k < 6) {w' : World} {s : Nd.NS} (hs : NAt w' (x.N k) 136 s) (hf : Fr (OneB (x.N k)) w w') : NtAt w' x v { t with N := Nt.upN t.N k s } where
  net := hf.row h.net (fun e => h.bN hk e)
  links := hf.row h.links (fun e => h.LN hk e)
  node j hj := by
    show NAt w' (x.N j) _ (Nt.upN t.N k s j)
    by_cases e : j = k
    · subst e; rw [Nt.upN_same]; exact hs
    · rw [Nt.upN_other _ _ _ _ e]; exact (h.node j hj).keep hf (fun e' => e (h.inj j k hj hk e'))
  news := own_keep h.news hf (fun g hg e => by cases e; exact h.Nv hk hg)
  inj := h.inj
/-- The links turned. -/
theorem NtAt.setL {w' : World} {C : Nat → Nat → Int} (hs : CAt w' x.L 108 C) (hf : Fr (OneB x.L) w w') : NtAt w' x v { t with C := C } where
  net := hf.row h.net (fun e => h.bL e)
  links := hs
  node j hj := (h.node j hj).keep hf (fun e => h.LN hj e.symm)
  news := own_keep h.news hf (fun g hg e => by cases e; exact h.Lv hg)
  inj := h.inj
/-- The news turned, and the field that holds them. -/
theorem NtAt.setV {w' : World} {v' : Value} {l : List Nt.Nw} (hv : SlN w' 0 v' l.length (nwI l)) (hf : Fr (fun i => v.ownBlock = some i) w w') : NtAt (w'.setCell ⟨x.b, 7, none⟩ v') x v' { t with news := l } := by
  have hnet := hf.row h.net h.bv
  have hl := hf.row h.links h.Lv
  have hb : ¬ v'.ownBlock = some x.b := row_own_apart hnet hv (by decide)
  have hfs : Fr (OneB x.b) w' (w'.setCell ⟨x.b, 7, none⟩ v') := (Fr.refl _ _).set1 _ _
  refine ⟨(World.rowIs.set hnet 7 v').congr (fun i hi => ?_), hfs.row hl (fun e => h.bL e.symm), fun k hk => ((h.node k hk).keep hf (h.Nv hk)).keep hfs (fun e => h.bN hk e.symm), own_keep hv hfs (fun g hg e => by cases e; exact hb hg), h.inj⟩
  unfold netF
  by_cases e : i = 7
  · subst e; simp
  · rw [if_neg e]
    by_cases e0 : i = 0
    · rw [if_pos e0, if_pos e0]
    · rw [if_neg e0, if_neg e0, if_pos (by omega), if_pos (by omega)]
end
theorem NtAt.drewN {w : World} {x : Ids} {v : Value} {t : Nt.NT} (h : NtAt w x v t) (n : Nat) : NtAt (w.drewN n) x v t := ⟨h.net, h.links, h.node, h.news, h.inj⟩
/-- What a step of a net says and leaves. -/
def NtDo (x : Ids) (v : Value) (t : Nt.NT) (c : Int) (w : World) (e : Ending) (w' : World) : Prop :=
  ∃ v', e = .returned (.int .i64 c) ∧ NtAt w' x v' t ∧ Fr (Ft x v) w w' ∧ ∀ g, v'.ownBlock = some g → v.ownBlock = some g ∨ w.heap.size ≤ g
/-- Two nets apart stay so. -/
theorem Ft.apart {wr : World} {x y : Ids} {v v' u : Value} {t' : Nt.NT} (hy : NtAt wr y u t') (h : ∀ i, Ft x v i → ¬ Ft y u i) (hg : ∀ g, v'.ownBlock = some g → v.ownBlock = some g ∨ wr.heap.size ≤ g) : ∀ i, Ft x v' i → ¬ Ft y u i := by
  intro i hi hy'
  rcases hi with hi | hi | hi | hi
  · exact h i (.inl hi) hy'
  · exact h i (.inr (.inl hi)) hy'
  · exact h i (.inr (.inr (.inl hi))) hy'
  · rcases hg i hi with hi | hi
    · exact h i (.inr (.inr (.inr hi))) hy'
    · have := hy.lt hy'; omega
end Go.Proofs.YteedndapbfihaaaGreat
/- Walks: slices.Index, slices.Contains at integers. -/
namespace Go.Proofs.YteedndapbfihaaaGreat
open Go.RowKit Go.Deep

theorem Sl.at {w : World} {base : Nat} {al : Option Addr} {n c : Nat} {xs : List Int} (h : Sl w base (.slice al n c) xs) {k : Nat} (hk : k < xs.length) : ∃ g, al = some ⟨g, 0, none⟩ ∧ w.cell? ⟨g, k, none⟩ = some (.int .i64 (xs.getD k 0)) := by
  rcases h.shape with ⟨_, rfl⟩ | ⟨g, cap, e, _, _, hc⟩
  · simp at hk
  · cases e
    exact ⟨g, rfl, hc k hk⟩
def IdxPost (xs : List Int) (y : Int) (w : World) (e : Ending) (w' : World) : Prop := ∃ r : Int, e = .returned (.int .i64 r) ∧ (0 ≤ r ↔ y ∈ xs) ∧ w = w'
def IdxRel (xs : List Int) (y : Int) (w : World) (i : Value) (wr : World) : Prop := ∃ k : Nat, k ≤ xs.length ∧ i = .int .i64 k ∧ (∀ j, j < k → xs.getD j 0 ≠ y) ∧ wr = w
set_option maxHeartbeats 1000000 in
theorem Index_any (base : Nat) (v : Value) (xs : List Int) (y : Int) (w : World) (hl : xs.length ≤ 1000000) (h : Sl w base v xs) :
    Calls Tryz.prog 91 #[v, .int .i64 y] w (IdxPost xs y w) := by
  obtain ⟨al, c, rfl, j⟩ := ownsRow_rd h
  clear j
  have H := Lib.hid h; clear h
  go_enter Tryz.func91, Tryz.ntmps91
  go_wp2
  go_loopw [8] (fun i wr => IdxRel xs y w i wr) (fun i _ => xs.length - (intOf i).toNat)
  case atStart => exact ⟨0, by omega, rfl, fun j h => by omega, rfl⟩
  case round =>
    obtain ⟨k, hk, rfl, hne, rfl⟩ := hrel
    have HNE := Lib.hid hne; clear hne
    by_cases hkn : k < xs.length
    · obtain ⟨g, rfl, cg⟩ := Sl.at H.out hkn
      have hmem : xs.getD k 0 ∈ xs := by simp [hkn]
      generalize hz : xs.getD k 0 = z at *
      by_cases he : y = z
      · have heb : (y == z) = true := by simp [he]
        have hm : y ∈ xs := by rw [he]; exact hmem
        clear hmem hz he
        have HM := Lib.hid hm; clear hm
        go_wp2
        go_ret
        exact ⟨k, rfl, ⟨fun _ => HM.out, fun _ => by omega⟩, rfl⟩
      · have heb : (y == z) = false := by simpa using he
        have hne : ∀ j, j < k + 1 → xs.getD j 0 ≠ y := fun j hj => by
          by_cases e : j = k
          · rw [e, hz]; exact fun h => he h.symm
          · exact HNE.out j (by omega)
        clear hmem hz he HNE
        have HNE := Lib.hid hne; clear hne
        go_wp2
        go_roundw
        case rel => exact ⟨k + 1, by omega, by go_num, HNE.out, rfl⟩
        case measure => simp [intOf]; omega
    · have hm : ¬ y ∈ xs := fun hm => by
        obtain ⟨j, hj, e⟩ := List.mem_iff_getElem.1 hm
        exact HNE.out j (by omega) (by simp [hj, e])
      clear HNE
      have HM := Lib.hid hm; clear hm
      go_wp2
      go_ret
      exact ⟨-1, rfl, ⟨fun h => by omega, fun h => absurd h HM.out⟩, rfl⟩
set_option maxHeartbeats 1000000 in
theorem Contains_any (base : Nat) (v : Value) (xs : List Int) (y : Int) (w : World) (hl : xs.length ≤ 1000000) (h : Sl w base v xs) :
    Calls Tryz.prog 59 #[v, .int .i64 y] w fun e w' => e = .returned (.bool (decide (y ∈ xs))) ∧ w = w' := by
  have H := Lib.hid h; clear h
  go_enter Tryz.func59, Tryz.ntmps59
  go_wp2_with fail
  refine (Index_any base v xs y _ hl H.out).mono ?_
  rintro e w1 ⟨r, rfl, hr, rfl⟩
  have hd : decide (0 ≤ r) = decide (y ∈ xs) := decide_eq_decide.2 hr
  have HD := Lib.hid hd; clear hd
  clear hr
  go_wp2
  go_ret
  exact ⟨ret_bool HD.out, rfl⟩
end Go.Proofs.YteedndapbfihaaaGreat
