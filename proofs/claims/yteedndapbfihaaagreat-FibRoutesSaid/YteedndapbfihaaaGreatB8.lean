/- One step of a node's script. -/
import Derived.Test.YteedndapbfihaaaGreatB6
import Derived.Test.YteedndapbfihaaaGreatB7
import Derived.Test.YteedndapbfihaaaGreatB2
namespace Go.Proofs.YteedndapbfihaaaGreat.Nd

def stepN (s : NS) (x0 x1 x2 x4 x5 x6 : Int) : NS := if x0 = 0 then (linkC s x2 x1).1 else if x0 = 1 then (hearC s x2 x4 x5 x6).1 else if x0 = 2 then tick s else s
theorem pick_wSme (s : NS) (k : Nat) : (pick s k).wS s.me = s.wS s.me := by
  unfold Nd.pick; split
  · rfl
  · rename_i hk
    exact up_other _ _ _ _ (fun e => hk e.symm)
theorem all_me (s : NS) : ∀ k, (all s k).me = s.me
  | 0 => rfl
  | k + 1 => by rw [Nd.all, pick_me, all_me s k]
theorem all_wSme (s : NS) : ∀ k, (all s k).wS s.me = s.wS s.me
  | 0 => rfl
  | k + 1 => by
    have := pick_wSme (all s k) k
    rw [all_me] at this
    rw [Nd.all, this, all_wSme s k]
theorem link_me (s : NS) (who : Nat) (c : Int) : (link s who c).me = s.me := by
  unfold Nd.link; dsimp only; split <;> rw [all_me] <;> rfl
theorem link_wSme (s : NS) (who : Nat) (c : Int) : (link s who c).wS s.me = s.wS s.me := by
  unfold Nd.link; dsimp only; split
  · exact all_wSme (forget { s with cost := up s.cost who c } who) 6
  · exact all_wSme { s with cost := up s.cost who c } 6
theorem hear_me (s : NS) (f t : Nat) (q d : Int) : (hear s f t q d).me = s.me := pick_me _ _
theorem hear_wSme (s : NS) (f t : Nat) (q d : Int) : (hear s f t q d).wS s.me = s.wS s.me := pick_wSme { s with hS := up2 s.hS f t q, hD := up2 s.hD f t d } t
theorem linkC_me (s : NS) (who c : Int) : (linkC s who c).1.me = s.me := by unfold linkC; split; rfl; exact link_me _ _ _
theorem hearC_me (s : NS) (f t q d : Int) : (hearC s f t q d).1.me = s.me := by
  unfold hearC; split
  · rfl
  · split
    · rfl
    · exact hear_me _ _ _ _ _
theorem linkC_wSme (s : NS) (who c : Int) : (linkC s who c).1.wS s.me = s.wS s.me := by unfold linkC; split; rfl; exact link_wSme _ _ _
theorem hearC_wSme (s : NS) (f t q d : Int) : (hearC s f t q d).1.wS s.me = s.wS s.me := by
  unfold hearC; split
  · rfl
  · split
    · rfl
    · exact hear_wSme _ _ _ _ _
theorem tick_me (s : NS) : (tick s).me = s.me := rfl
theorem tick_wSme (s : NS) : (tick s).wS s.me = s.wS s.me + 1 := by simp [tick, own]

/-- What holds of a node behind at most n steps. -/
structure Run (s : NS) (n : Nat) : Prop where
  ok : Ok s
  own : Own s
  lo : 0 ≤ s.wS s.me
  hi : s.wS s.me ≤ n
theorem Run.mono {s : NS} {n m : Nat} (h : Run s n) (hm : n ≤ m) : Run s m := ⟨h.ok, h.own, h.lo, by have := h.hi; omega⟩
theorem Run.linkC {s : NS} {n : Nat} (h : Run s n) (who c : Int) : Run (linkC s who c).1 n := ⟨h.ok.linkC who c, h.own.linkC who c, by rw [linkC_me, linkC_wSme]; exact h.lo, by rw [linkC_me, linkC_wSme]; exact h.hi⟩
theorem Run.hearC {s : NS} {n : Nat} (h : Run s n) (f t q d : Int) : Run (hearC s f t q d).1 n := ⟨h.ok.hearC f t q d, h.own.hearC f t q d, by rw [hearC_me, hearC_wSme]; exact h.lo, by rw [hearC_me, hearC_wSme]; exact h.hi⟩
theorem Run.tick {s : NS} {n : Nat} (h : Run s n) : Run (tick s) (n + 1) := ⟨h.ok.tick, Own.tick s, by rw [tick_me, tick_wSme]; have := h.lo; omega, by rw [tick_me, tick_wSme]; have := h.hi; omega⟩
theorem Run.fresh {me : Nat} (h : me < 6) : Run (fresh me) 0 := ⟨Ok.fresh h, Own.fresh me, by simp [Nd.fresh, Nd.own, newK], by simp [Nd.fresh, Nd.own, newK]⟩
theorem Run.step {s : NS} {n : Nat} (h : Run s n) (x0 x1 x2 x4 x5 x6 : Int) : Run (stepN s x0 x1 x2 x4 x5 x6) (n + 1) := by
  unfold stepN
  split
  · exact (h.linkC _ _).mono (by omega)
  · split
    · exact (h.hearC _ _ _ _).mono (by omega)
    · split
      · exact h.tick
      · exact h.mono (by omega)
end Go.Proofs.YteedndapbfihaaaGreat.Nd
/- Walks: handpostlaw.nodeBegun; Way and Best of a node that there is. -/
namespace Go.Proofs.YteedndapbfihaaaGreat
open Go.RowKit Go.Deep

theorem fieldHop (a b c : Int) (w : World) : (Instr.field 47 (.agg #[.int .i64 a, .int .i64 b, .int .i64 c]) 2).run Tryz.prog w = .ok (.int .i64 c) w := by kernel_rfl
end Go.Proofs.YteedndapbfihaaaGreat
/- A new node learns all that another one tells it. -/
namespace Go.Proofs.YteedndapbfihaaaGreat.Nd

/-- What always holds of the ways. -/
structure Wy (s : NS) : Prop where
  bS : ∀ k, k < 6 → 0 ≤ s.bS k
  wS : ∀ k, k < 6 → 0 ≤ s.wS k
  lo : ∀ k, k < 6 → 0 ≤ s.wD k
  hi : ∀ k, k < 6 → s.wD k ≤ 200
  drop : ∀ k, k < 6 → s.wH k = -1 → s.wD k = 200
theorem choose_cases (s : NS) (dst : Nat) : choose s dst 6 = none s dst ∨ ∃ t, t < 6 ∧ may s t dst = true ∧ choose s dst 6 = key s dst t := by
  rcases choose_spec s dst 6 with ⟨h1, _⟩ | ⟨t, ht, h1⟩
  · exact .inl h1
  · exact .inr ⟨t, ht.lt, ht.may, h1⟩
theorem Wy.pick {s : NS} (ok : Ok s) (h : Wy s) {dst : Nat} (hd : dst < 6) : Wy (pick s dst) := by
  unfold Nd.pick
  split
  · exact h
  · have key2 : (0 ≤ (choose s dst 6).seq ∧ 0 ≤ (choose s dst 6).dist ∧ (choose s dst 6).dist ≤ 200 ∧ ((choose s dst 6).hop = -1 → (choose s dst 6).dist = 200)) := by
      rcases choose_cases s dst with e | ⟨t, ht, hm, e⟩
      · rw [e]; exact ⟨h.bS dst hd, by simp [none], by simp [none], fun _ => rfl⟩
      · rw [e]
        have h1 := ok.hS t dst ht hd
        have h2 := ok.hD t dst ht hd
        have h3 := ok.cost t ht
        simp only [may, Bool.and_eq_true, decide_eq_true_eq] at hm
        exact ⟨h1, by simp only [key]; omega, by simp only [key]; omega, fun hh => by simp only [key] at hh; omega⟩
    generalize choose s dst 6 = w at *
    obtain ⟨a, b, c, d⟩ := key2
    refine ⟨fun k hk => ?_, fun k hk => ?_, fun k hk => ?_, fun k hk => ?_, fun k hk => ?_⟩
    · have := h.bS k hk
      simp only [lay]; split
      · unfold up; split <;> omega
      · exact this
    · have := h.wS k hk
      simp only [lay, up]; split <;> omega
    · have := h.lo k hk
      simp only [lay, up]; split <;> omega
    · have := h.hi k hk
      simp only [lay, up]; split <;> omega
    · have := h.drop k hk
      simp only [lay, up]; split
      · exact d
      · exact this
theorem Wy.all {s : NS} (ok : Ok s) (h : Wy s) : ∀ k, k ≤ 6 → Wy (all s k)
  | 0, _ => h
  | k + 1, hk => Wy.pick (ok.all k) (Wy.all ok h k (by omega)) (by omega)
theorem Wy.same {s s' : NS} (h : Wy s) (e1 : s'.bS = s.bS) (e2 : s'.wS = s.wS) (e3 : s'.wD = s.wD) (e4 : s'.wH = s.wH) : Wy s' :=
  ⟨by rw [e1]; exact h.bS, by rw [e2]; exact h.wS, by rw [e3]; exact h.lo, by rw [e3]; exact h.hi, by rw [e3, e4]; exact h.drop⟩
theorem Wy.link {s : NS} (ok : Ok s) (h : Wy s) (who : Nat) (c : Int) (h0 : 0 ≤ c) (h1 : c ≤ 15) : Wy (link s who c) := by
  unfold Nd.link
  dsimp only
  split
  · exact Wy.all (Ok.forget (Ok.cost' ok who c h0 h1) who) (h.same rfl rfl rfl rfl) 6 (by omega)
  · exact Wy.all (Ok.cost' ok who c h0 h1) (h.same rfl rfl rfl rfl) 6 (by omega)
theorem Wy.linkC {s : NS} (ok : Ok s) (h : Wy s) (who c : Int) : Wy (linkC s who c).1 := by
  unfold Nd.linkC; split
  · exact h
  · rename_i hb
    simp only [linkBad] at hb
    exact Wy.link ok h _ c (by omega) (by omega)
theorem Wy.hearC {s : NS} (ok : Ok s) (h : Wy s) (f t q d : Int) : Wy (hearC s f t q d).1 := by
  unfold Nd.hearC; split
  · exact h
  · rename_i hb
    simp only [hearBad] at hb
    split
    · exact h
    · exact Wy.pick (ok.heard _ _ q d (by omega) (by omega) (by omega)) (h.same rfl rfl rfl rfl) (by omega)
theorem Wy.tick {s : NS} (h : Wy s) (hw : 0 ≤ s.wS s.me) : Wy (tick s) := by
  refine ⟨fun k hk => ?_, fun k hk => ?_, fun k hk => ?_, fun k hk => ?_, fun k hk => ?_⟩
  · have := h.bS k hk
    simp only [Nd.tick, own, up, if_true]; split <;> omega
  · have := h.wS k hk
    simp only [Nd.tick, own, up]; split <;> omega
  · have := h.lo k hk
    simp only [Nd.tick, own, up]; split <;> omega
  · have := h.hi k hk
    simp only [Nd.tick, own, up]; split <;> omega
  · have := h.drop k hk
    simp only [Nd.tick, own, up]; split
    · intro hh; omega
    · exact this
theorem Wy.fresh (me : Nat) : Wy (fresh me) := by
  refine ⟨fun k hk => ?_, fun k hk => ?_, fun k hk => ?_, fun k hk => ?_, fun k hk => ?_⟩
  · simp only [Nd.fresh, own, newK, up]; split <;> omega
  · simp only [Nd.fresh, own, newK]; omega
  · simp only [Nd.fresh, own, newK, up, hk, if_true]; split <;> omega
  · simp only [Nd.fresh, own, newK, up, hk, if_true]; split <;> omega
  · simp only [Nd.fresh, own, newK, up, hk, if_true]; split
    · intro hh; omega
    · intro _; rfl
theorem Wy.step {s : NS} {n : Nat} (r : Run s n) (h : Wy s) (x0 x1 x2 x4 x5 x6 : Int) : Wy (stepN s x0 x1 x2 x4 x5 x6) := by
  unfold stepN
  split
  · exact Wy.linkC r.ok h _ _
  · split
    · exact Wy.hearC r.ok h _ _ _ _
    · split
      · exact Wy.tick h r.lo
      · exact h
/- The new one. -/
end Go.Proofs.YteedndapbfihaaaGreat.Nd
/- The best is never worse; a way is what was told, and was told better than the best. -/
namespace Go.Proofs.YteedndapbfihaaaGreat.Nd

structure WayOk (s : NS) (k : Nat) : Prop where
  via : s.wH k ≠ -1 → ∃ f : Nat, f < 6 ∧ s.wH k = (f : Int) ∧ 0 < s.cost f ∧ s.wS k = s.hS f k ∧ s.wD k = s.hD f k + s.cost f ∧ s.hD f k + s.cost f < 200 ∧ betB (s.hS f k) (s.hD f k) (s.bS k) (s.bD k) = true ∧ betB (s.wS k) (s.wD k) (s.bS k) (s.bD k) = false
theorem pick_wayOk {s : NS} (k : Nat) (hm : k ≠ s.me) : WayOk (pick s k) k := by
  constructor
  intro h
  rw [Nd.pick, if_neg hm] at *
  rcases choose_cases s k with e | ⟨t, ht, hmay, e⟩
  · rw [e] at h
    exact absurd (by simp only [lay, up_same]; rfl) h
  · rw [e] at *
    have hmay' := hmay
    simp only [may, Bool.and_eq_true, decide_eq_true_eq] at hmay
    obtain ⟨⟨h1, h2⟩, h3⟩ := hmay
    refine ⟨t, ht, by simp only [lay, key, up_same], h1, by simp only [lay, key, up_same], by simp only [lay, key, up_same], h2, ?_, ?_⟩
    · by_cases hb : (key s k t).hop ≠ -1 ∧ betB (key s k t).seq (key s k t).dist (s.bS k) (s.bD k) = true
      · simp only [lay, if_pos hb, up_same]
        rw [betB_iff]
        exact .inr ⟨rfl, by show s.hD t k < s.hD t k + s.cost t; omega⟩
      · simp only [lay, if_neg hb]
        exact h3
    · by_cases hb : (key s k t).hop ≠ -1 ∧ betB (key s k t).seq (key s k t).dist (s.bS k) (s.bD k) = true
      · simp only [lay, if_pos hb, up_same]
        rw [betB_no]; omega
      · simp only [lay, if_neg hb, up_same]
        cases hc : betB (key s k t).seq (key s k t).dist (s.bS k) (s.bD k)
        · rfl
        · exact absurd ⟨by simp only [key]; omega, hc⟩ hb
theorem pick_other {s : NS} {j k : Nat} (h : WayOk s j) (hj : j ≠ k) : WayOk (pick s k) j := by
  unfold Nd.pick
  split
  · exact h
  · constructor
    have hb1 : (lay s k (choose s k 6)).bS j = s.bS j := by simp only [lay]; split <;> simp [up, hj]
    have hb2 : (lay s k (choose s k 6)).bD j = s.bD j := by simp only [lay]; split <;> simp [up, hj]
    have h1 : (lay s k (choose s k 6)).wH j = s.wH j := up_other _ _ _ _ hj
    have h2 : (lay s k (choose s k 6)).wS j = s.wS j := up_other _ _ _ _ hj
    have h3 : (lay s k (choose s k 6)).wD j = s.wD j := up_other _ _ _ _ hj
    rw [hb1, hb2, h1, h2, h3]
    exact h.via
theorem all_wayOk (s : NS) : ∀ n j, j < n → j ≠ s.me → WayOk (all s n) j
  | 0, _, hj, _ => by omega
  | n + 1, j, hj, hm => by
    rw [Nd.all]
    by_cases e : j = n
    · subst e; exact pick_wayOk j (by rw [all_me]; exact hm)
    · exact pick_other (all_wayOk s n j (by omega) hm) e
/-- Best and age of itself. -/
structure Bst (s : NS) : Prop where
  way : ∀ k, k < 6 → k ≠ s.me → WayOk s k
  meS : s.bS s.me = s.wS s.me
  meD : s.bD s.me = 0
theorem pick_bme (s : NS) (k : Nat) : (pick s k).bS s.me = s.bS s.me ∧ (pick s k).bD s.me = s.bD s.me := by
  unfold Nd.pick; split
  · exact ⟨rfl, rfl⟩
  · rename_i hk
    have hne : s.me ≠ k := fun e => hk e.symm
    simp only [lay]; constructor <;> split <;> simp [up, hne]
theorem all_bme (s : NS) : ∀ n, (all s n).bS s.me = s.bS s.me ∧ (all s n).bD s.me = s.bD s.me
  | 0 => ⟨rfl, rfl⟩
  | n + 1 => by
    have h := pick_bme (all s n) n
    rw [all_me] at h
    rw [Nd.all, h.1, h.2]
    exact all_bme s n
theorem Bst.all {s : NS} (h1 : s.bS s.me = s.wS s.me) (h2 : s.bD s.me = 0) : Bst (all s 6) :=
  ⟨fun k hk hm => all_wayOk s 6 k hk (by rw [all_me] at hm; exact hm), by rw [all_me, (all_bme s 6).1, all_wSme]; exact h1, by rw [all_me, (all_bme s 6).2]; exact h2⟩
theorem Bst.linkC {s : NS} (h : Bst s) (who c : Int) : Bst (linkC s who c).1 := by
  unfold Nd.linkC; split
  · exact h
  · show Bst (link s who.toNat c)
    unfold Nd.link; dsimp only; split
    · exact Bst.all (s := forget { s with cost := up s.cost who.toNat c } who.toNat) h.meS h.meD
    · exact Bst.all (s := { s with cost := up s.cost who.toNat c }) h.meS h.meD
theorem Bst.hearC {s : NS} (h : Bst s) (f t q d : Int) : Bst (hearC s f t q d).1 := by
  unfold Nd.hearC; split
  · exact h
  · split
    · exact h
    · show Bst (pick { s with hS := up2 s.hS f.toNat t.toNat q, hD := up2 s.hD f.toNat t.toNat d } t.toNat)
      generalize f.toNat = x
      generalize t.toNat = y
      have hme : (pick { s with hS := up2 s.hS x y q, hD := up2 s.hD x y d } y).me = s.me := pick_me _ _
      refine ⟨fun k hk hm => ?_, ?_, ?_⟩
      · rw [hme] at hm
        by_cases e : k = y
        · subst e; exact pick_wayOk k hm
        · refine pick_other ⟨?_⟩ e
          intro hh
          obtain ⟨g, a1, a2, a3, a4, a5, a6, a7, a8⟩ := (h.way k hk hm).via hh
          have e1 : up2 s.hS x y q g k = s.hS g k := by simp [up2, e]
          have e2 : up2 s.hD x y d g k = s.hD g k := by simp [up2, e]
          exact ⟨g, a1, a2, a3, by show _ = up2 s.hS x y q g k; rw [e1]; exact a4, by show _ = up2 s.hD x y d g k + _; rw [e2]; exact a5, by show up2 s.hD x y d g k + _ < _; rw [e2]; exact a6, by show betB (up2 s.hS x y q g k) (up2 s.hD x y d g k) _ _ = _; rw [e1, e2]; exact a7, a8⟩
      · rw [hme]
        have h1 := (pick_bme { s with hS := up2 s.hS x y q, hD := up2 s.hD x y d } y).1
        have h2 := pick_wSme { s with hS := up2 s.hS x y q, hD := up2 s.hD x y d } y
        exact h1.trans (h.meS.trans h2.symm)
      · rw [hme]
        exact (pick_bme { s with hS := up2 s.hS x y q, hD := up2 s.hD x y d } y).2.trans h.meD
theorem Bst.tick {s : NS} (h : Bst s) : Bst (tick s) := by
  refine ⟨fun k hk hm => ⟨?_⟩, by simp [Nd.tick, own], by simp [Nd.tick, own]⟩
  have hm' : k ≠ s.me := hm
  have e1 : (Nd.tick s).wH k = s.wH k := by simp [Nd.tick, own, up, hm']
  have e2 : (Nd.tick s).wS k = s.wS k := by simp [Nd.tick, own, up, hm']
  have e3 : (Nd.tick s).wD k = s.wD k := by simp [Nd.tick, own, up, hm']
  have e4 : (Nd.tick s).bS k = s.bS k := by simp [Nd.tick, own, up, hm']
  have e5 : (Nd.tick s).bD k = s.bD k := by simp [Nd.tick, own, up, hm']
  rw [e1, e2, e3, e4, e5]
  exact (h.way k hk hm').via
theorem Bst.fresh {me : Nat} (_h : me < 6) : Bst (fresh me) := by
  refine ⟨fun k hk hm => ⟨fun hh => ?_⟩, by simp [Nd.fresh, own], by simp [Nd.fresh, own]⟩
  have hm' : k ≠ me := hm
  exact absurd (by simp [Nd.fresh, own, newK, up, hm', hk]) hh

/-- Not worse. -/
def NW (s s' : NS) (k : Nat) : Prop := betB (s.bS k) (s.bD k) (s'.bS k) (s'.bD k) = false
theorem NW.refl (s : NS) (k : Nat) : NW s s k := by unfold NW; rw [betB_no]; omega
theorem NW.trans {a b c : NS} {k : Nat} (h1 : NW a b k) (h2 : NW b c k) : NW a c k := by
  unfold NW at *; rw [betB_no] at *; omega
theorem NW.same {s s' : NS} {k : Nat} (e1 : s'.bS k = s.bS k) (e2 : s'.bD k = s.bD k) : NW s s' k := by unfold NW; rw [e1, e2, betB_no]; omega
theorem NW.pick (s : NS) (j k : Nat) : NW s (pick s j) k := by
  unfold Nd.pick; split
  · exact NW.refl _ _
  · by_cases hb : (choose s j 6).hop ≠ -1 ∧ betB (choose s j 6).seq (choose s j 6).dist (s.bS j) (s.bD j) = true
    · unfold NW
      simp only [lay, if_pos hb]
      by_cases e : k = j
      · subst e
        rw [up_same, up_same]
        have := hb.2
        rw [betB_iff] at this
        rw [betB_no]; omega
      · rw [up_other _ _ _ _ e, up_other _ _ _ _ e, betB_no]; omega
    · unfold NW
      simp only [lay, if_neg hb]
      rw [betB_no]; omega
theorem NW.all (s : NS) (k : Nat) : ∀ n, NW s (all s n) k
  | 0 => NW.refl _ _
  | n + 1 => (NW.all s k n).trans (NW.pick _ _ _)
theorem NW.linkC (s : NS) (who c : Int) (k : Nat) : NW s (linkC s who c).1 k := by
  unfold Nd.linkC; split
  · exact NW.refl _ _
  · show NW s (link s who.toNat c) k
    unfold Nd.link; dsimp only; split
    · exact (NW.same (s' := forget { s with cost := up s.cost who.toNat c } who.toNat) rfl rfl).trans (NW.all _ k 6)
    · exact (NW.same (s' := { s with cost := up s.cost who.toNat c }) rfl rfl).trans (NW.all _ k 6)
theorem NW.hearC (s : NS) (f t q d : Int) (k : Nat) : NW s (hearC s f t q d).1 k := by
  unfold Nd.hearC; split
  · exact NW.refl _ _
  · split
    · exact NW.refl _ _
    · exact (NW.same (s' := { s with hS := up2 s.hS f.toNat t.toNat q, hD := up2 s.hD f.toNat t.toNat d }) rfl rfl).trans (NW.pick _ _ _)
theorem NW.tick {s : NS} (h : Bst s) (k : Nat) : NW s (tick s) k := by
  by_cases e : k = s.me
  · subst e
    unfold NW
    have h1 := h.meS
    have h2 := h.meD
    have e4 : (Nd.tick s).bS s.me = s.wS s.me + 1 := by simp [Nd.tick, own]
    have e5 : (Nd.tick s).bD s.me = 0 := by simp [Nd.tick, own]
    rw [e4, e5, h1, h2, betB_no]; omega
  · exact NW.same (by simp [Nd.tick, own, up, e]) (by simp [Nd.tick, own, up, e])

theorem all_heard (s : NS) : ∀ n, (all s n).hS = s.hS ∧ (all s n).hD = s.hD ∧ (all s n).cost = s.cost
  | 0 => ⟨rfl, rfl, rfl⟩
  | n + 1 => by
    rw [Nd.all]
    obtain ⟨h1, h2, h3⟩ := all_heard s n
    unfold Nd.pick; split
    · exact ⟨h1, h2, h3⟩
    · exact ⟨h1, h2, h3⟩
theorem linkC_cost_ok {s : NS} {who c : Int} (h : (linkC s who c).2 = 0) : (0 ≤ who ∧ who < 6) ∧ (linkC s who c).1.cost = up s.cost who.toNat c := by
  unfold Nd.linkC at *
  split at h
  · simp at h
  · rename_i hb
    rw [if_neg hb]
    simp only [linkBad] at hb
    refine ⟨by omega, ?_⟩
    show (link s who.toNat c).cost = _
    unfold Nd.link; dsimp only; split <;> rw [(all_heard _ 6).2.2] <;> rfl
theorem pick_heard (s : NS) (k : Nat) : (pick s k).hS = s.hS ∧ (pick s k).hD = s.hD ∧ (pick s k).cost = s.cost := by
  unfold Nd.pick; split <;> exact ⟨rfl, rfl, rfl⟩
theorem hearC_cost (s : NS) (f t q d : Int) : (hearC s f t q d).1.cost = s.cost := by
  unfold Nd.hearC; split
  · rfl
  · split
    · rfl
    · exact (pick_heard _ _).2.2
theorem Bst.step {s : NS} (h : Bst s) (x0 x1 x2 x4 x5 x6 : Int) : Bst (stepN s x0 x1 x2 x4 x5 x6) := by
  unfold stepN
  split
  · exact h.linkC _ _
  · split
    · exact h.hearC _ _ _ _
    · split
      · exact h.tick
      · exact h
theorem NW.step {s : NS} (h : Bst s) (x0 x1 x2 x4 x5 x6 : Int) (k : Nat) : NW s (stepN s x0 x1 x2 x4 x5 x6) k := by
  unfold stepN
  split
  · exact NW.linkC _ _ _ _
  · split
    · exact NW.hearC _ _ _ _ _ _
    · split
      · exact NW.tick h _
      · exact NW.refl _ _
end Go.Proofs.YteedndapbfihaaaGreat.Nd
/- A net: its nodes, its links, and news on their way; what steps do to it; no program. -/
namespace Go.Proofs.YteedndapbfihaaaGreat.Nt
open Nd

/-- News: who says, to whom, of whom, which age, how far. -/
structure Nw where
  a : Int
  g : Int
  t : Int
  q : Int
  d : Int
structure NT where
  N : Nat → NS
  C : Nat → Nat → Int
  news : List Nw
def upN (f : Nat → NS) (i : Nat) (s : NS) : Nat → NS := fun j => if j = i then s else f j
theorem upN_same (f : Nat → NS) (i : Nat) (s : NS) : upN f i s i = s := by simp [upN]
theorem upN_other (f : Nat → NS) (i j : Nat) (s : NS) (h : j ≠ i) : upN f i s j = f j := by simp [upN, h]
def begun : NT := ⟨fun k => fresh k, fun _ _ => 0, []⟩
def tellW (s : NS) (who : Int) (k : Nat) : List Nw := (List.range k).map fun (t : Nat) => ⟨s.me, who, t, s.wS t, s.wD t⟩
theorem tellW_len (s : NS) (who : Int) (k : Nat) : (tellW s who k).length = k := by simp [tellW]
def setBad (a b c : Int) : Prop := ¬ (0 ≤ a ∧ a < 6 ∧ 0 ≤ b ∧ b < 6 ∧ a ≠ b ∧ 0 ≤ c ∧ c ≤ 15)
instance (a b c : Int) : Decidable (setBad a b c) := by unfold setBad; infer_instance
def linkOk (t : NT) (a b : Nat) (c : Int) : NT := ⟨upN (upN t.N a (Nd.linkC (t.N a) b c).1) b (Nd.linkC (t.N b) a c).1, setC t.C a b c, t.news⟩
def linkT (t : NT) (a b c : Int) : NT × Int := if setBad a b c then (t, 1) else (linkOk t a.toNat b.toNat c, 0)
def isN (n : Int) : Prop := 0 ≤ n ∧ n < 6
instance (n : Int) : Decidable (isN n) := by unfold isN; infer_instance
def tellT (t : NT) (a b : Int) : NT × Int :=
  if ¬ (isN a ∧ isN b) then (t, 1) else if t.C a.toNat b.toNat = 0 then (t, 6) else if 40 < t.news.length + 6 then (t, 9) else ({ t with news := t.news ++ tellW (t.N a.toNat) b 6 }, 0)
/-- To one behind the other. -/
def tellsT (t : NT) (a : Int) : List Nat → NT × Int
  | [] => (t, 0)
  | b :: l => if (tellT t a b).2 = 0 then tellsT (tellT t a b).1 a l else tellT t a b
def tickOk (t : NT) (a : Nat) : NT := { t with N := upN t.N a (Nd.tick (t.N a)) }
def tickT (t : NT) (a : Int) : NT × Int := if ¬ isN a then (t, 1) else tellsT (tickOk t a.toNat) a (ofL t.C a.toNat 6)
def out (t : NT) (n : Int) : Prop := n < 0 ∨ (t.news.length : Int) ≤ n
instance (t : NT) (n : Int) : Decidable (out t n) := by unfold out; infer_instance
def lost (t : NT) (k : Nat) : NT := { t with news := t.news.take k ++ t.news.drop (k + 1) }
def loseT (t : NT) (n : Int) : NT × Int := if out t n then (t, 6) else (lost t n.toNat, 0)
def heard (t : NT) (x : Nw) : NT × Int := ({ t with N := upN t.N x.g.toNat (Nd.hearC (t.N x.g.toNat) x.a x.t x.q x.d).1 }, (Nd.hearC (t.N x.g.toNat) x.a x.t x.q x.d).2)
def nwAt (t : NT) (k : Nat) : Nw := t.news.getD k ⟨0, 0, 0, 0, 0⟩
def hearT (t : NT) (n : Int) : NT × Int := if out t n then (t, 6) else heard (lost t n.toNat) (nwAt t n.toNat)
def dblT (t : NT) (n : Int) : NT × Int := if out t n then (t, 6) else if t.news.length = 40 then (t, 9) else ({ t with news := t.news ++ [nwAt t n.toNat] }, 0)
def doT (t : NT) (k a b n : Int) : NT × Int :=
  if k = 1 then linkT t a b n else if k = 2 then tickT t a else if k = 3 then tellT t a b else if k = 4 then hearT t n else if k = 5 then loseT t n else if k = 6 then dblT t n else (t, 8)

/-- What holds of a net behind at most n steps. -/
structure NOk (t : NT) (n : Nat) : Prop where
  me : ∀ k, k < 6 → (t.N k).me = k
  run : ∀ k, k < 6 → Run (t.N k) n
  cost : Lk.CostOK t.C
  g : ∀ x ∈ t.news, isN x.g
  len : t.news.length ≤ 40
theorem NOk.begun : NOk begun 0 := ⟨fun _ _ => rfl, fun _ hk => Run.fresh hk, CostOK.zero, fun _ h => (by cases h), by simp [Nt.begun]⟩
theorem NOk.mono {t : NT} {n m : Nat} (h : NOk t n) (hm : n ≤ m) : NOk t m := ⟨h.me, fun k hk => (h.run k hk).mono hm, h.cost, h.g, h.len⟩
theorem NOk.upd {t : NT} {n : Nat} (h : NOk t n) {k : Nat} {s : NS} (hm : s.me = k) (hs : Run s n) : NOk { t with N := upN t.N k s } n where
  me j hj := by
    show (upN t.N k s j).me = j
    by_cases e : j = k
    · subst e; rw [upN_same]; exact hm
    · rw [upN_other _ _ _ _ e]; exact h.me j hj
  run j hj := by
    show Run (upN t.N k s j) n
    by_cases e : j = k
    · subst e; rw [upN_same]; exact hs
    · rw [upN_other _ _ _ _ e]; exact h.run j hj
  cost := h.cost
  g := h.g
  len := h.len
theorem NOk.linkOk {t : NT} {n : Nat} (h : NOk t n) {a b : Nat} {c : Int} (ha : a < 6) (hb : b < 6) (hab : a ≠ b) (h0 : 0 ≤ c) (h1 : c ≤ 15) : NOk (linkOk t a b c) n := by
  have k1 := h.upd (k := a) (s := (Nd.linkC (t.N a) b c).1) (by rw [linkC_me]; exact h.me a ha) ((h.run a ha).linkC b c)
  have k2 := k1.upd (k := b) (s := (Nd.linkC (t.N b) a c).1) (by rw [linkC_me]; exact h.me b hb) ((h.run b hb).linkC a c)
  exact ⟨k2.me, k2.run, CostOK.set h.cost hab h0 h1, h.g, h.len⟩
theorem NOk.linkT {t : NT} {n : Nat} (h : NOk t n) (a b c : Int) : NOk (linkT t a b c).1 n := by
  unfold Nt.linkT; split
  · exact h
  · rename_i hb
    simp only [setBad, Classical.not_not] at hb
    exact h.linkOk (by omega) (by omega) (by omega) (by omega) (by omega)
theorem NOk.tellT {t : NT} {n : Nat} (h : NOk t n) (a b : Int) : NOk (tellT t a b).1 n := by
  unfold Nt.tellT; split
  · exact h
  · rename_i hn
    have hn : isN a ∧ isN b := Classical.not_not.1 hn
    split
    · exact h
    · split
      · exact h
      · rename_i hl
        refine ⟨h.me, h.run, h.cost, fun x hx => ?_, by show (t.news ++ tellW _ b 6).length ≤ 40; rw [List.length_append, tellW_len]; omega⟩
        rcases List.mem_append.1 hx with hx | hx
        · exact h.g x hx
        · simp only [tellW, List.mem_map] at hx
          obtain ⟨k, _, rfl⟩ := hx
          exact hn.2
theorem NOk.tellsT {n : Nat} (a : Int) : ∀ (l : List Nat) {t : NT}, NOk t n → NOk (tellsT t a l).1 n
  | [], _, h => h
  | b :: l, t, h => by
    rw [Nt.tellsT]; split
    · exact NOk.tellsT a l (h.tellT a b)
    · exact h.tellT a b
theorem NOk.tickOk {t : NT} {n : Nat} (h : NOk t n) {a : Nat} (ha : a < 6) : NOk (tickOk t a) (n + 1) :=
  (h.mono (Nat.le_succ n)).upd (by rw [tick_me]; exact h.me a ha) (h.run a ha).tick
theorem NOk.tickT {t : NT} {n : Nat} (h : NOk t n) (a : Int) : NOk (tickT t a).1 (n + 1) := by
  unfold Nt.tickT; split
  · exact h.mono (Nat.le_succ n)
  · rename_i hn
    have hn : isN a := Classical.not_not.1 hn
    exact NOk.tellsT a _ (h.tickOk (by unfold isN at hn; omega))
theorem NOk.lost {t : NT} {n : Nat} (h : NOk t n) (k : Nat) : NOk (lost t k) n :=
  ⟨h.me, h.run, h.cost, fun x hx => by
    rcases List.mem_append.1 hx with hx | hx
    · exact h.g x (List.mem_of_mem_take hx)
    · exact h.g x (List.mem_of_mem_drop hx), by
    have := h.len
    show (t.news.take k ++ t.news.drop (k + 1)).length ≤ 40
    rw [List.length_append, List.length_take, List.length_drop]; omega⟩
theorem NOk.loseT {t : NT} {n : Nat} (h : NOk t n) (k : Int) : NOk (loseT t k).1 n := by
  unfold Nt.loseT; split
  · exact h
  · exact h.lost _
theorem nwAt_mem {t : NT} {k : Nat} (h : k < t.news.length) : nwAt t k ∈ t.news := by
  unfold nwAt; rw [List.getD_eq_getElem?_getD, List.getElem?_eq_getElem h]; exact List.getElem_mem h
theorem out_no {t : NT} {n : Int} (h : ¬ out t n) : n.toNat < t.news.length := by unfold out at h; omega
theorem NOk.heard {t : NT} {n : Nat} (h : NOk t n) {x : Nw} (hx : isN x.g) : NOk (heard t x).1 n := by
  unfold isN at hx
  have hk : x.g.toNat < 6 := by omega
  exact h.upd (by rw [hearC_me]; exact h.me _ hk) ((h.run _ hk).hearC _ _ _ _)
theorem NOk.hearT {t : NT} {n : Nat} (h : NOk t n) (k : Int) : NOk (hearT t k).1 n := by
  unfold Nt.hearT; split
  · exact h
  · rename_i ho
    exact NOk.heard (h.lost _) (h.g _ (nwAt_mem (out_no ho)))
theorem NOk.dblT {t : NT} {n : Nat} (h : NOk t n) (k : Int) : NOk (dblT t k).1 n := by
  unfold Nt.dblT; split
  · exact h
  · rename_i ho
    split
    · exact h
    · refine ⟨h.me, h.run, h.cost, fun x hx => ?_, by have := h.len; show (t.news ++ [nwAt t k.toNat]).length ≤ 40; rw [List.length_append]; simp; omega⟩
      rcases List.mem_append.1 hx with hx | hx
      · exact h.g x hx
      · rw [List.mem_singleton.1 hx]; exact h.g _ (nwAt_mem (out_no ho))
theorem NOk.doT {t : NT} {n : Nat} (h : NOk t n) (k a b c : Int) : NOk (doT t k a b c).1 (n + 1) := by
  have hm := h.mono (Nat.le_succ n)
  unfold Nt.doT
  split
  · exact hm.linkT a b c
  · split
    · exact h.tickT a
    · split
      · exact hm.tellT a b
      · split
        · exact hm.hearT c
        · split
          · exact hm.loseT c
          · split
            · exact hm.dblT c
            · exact hm
end Go.Proofs.YteedndapbfihaaaGreat.Nt
