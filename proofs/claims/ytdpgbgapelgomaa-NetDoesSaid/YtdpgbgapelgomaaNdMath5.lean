/- A new node learns all that another one tells it. -/
import Derived.Test.YtdpgbgapelgomaaNdMath4
namespace Go.Proofs.Ytdpgbgapelgomaa.Nd

/-- What always holds of the ways. -/
structure Wy (s : NS) : Prop where
  bS : ∀ k, k < 6 → 0 ≤ s.bS k
  wS : ∀ k, k < 6 → 0 ≤ s.wS k
  lo : ∀ k, k < 6 → 0 ≤ s.wD k
  hi : ∀ k, k < 6 → s.wD k ≤ 200
  drop : ∀ k, k < 6 → s.wH k = -1 → s.wD k = 200
theorem choose_cases (s : NS) (dst : Nat) : choose s dst 6 = none s dst ∨ ∃ t, t < 6 ∧ may s t dst = true ∧ choose s dst 6 = key s dst t := by
  rcases choose_spec s dst 6 with ⟨h1, _⟩ | ⟨t, ht, h1⟩
  · exact .inl h1
  · exact .inr ⟨t, ht.lt, ht.may, h1⟩
theorem Wy.pick {s : NS} (ok : Ok s) (h : Wy s) {dst : Nat} (hd : dst < 6) : Wy (pick s dst) := by
  unfold Nd.pick
  split
  · exact h
  · have key2 : (0 ≤ (choose s dst 6).seq ∧ 0 ≤ (choose s dst 6).dist ∧ (choose s dst 6).dist ≤ 200 ∧ ((choose s dst 6).hop = -1 → (choose s dst 6).dist = 200)) := by
      rcases choose_cases s dst with e | ⟨t, ht, hm, e⟩
      · rw [e]; exact ⟨h.bS dst hd, by simp [none], by simp [none], fun _ => rfl⟩
      · rw [e]
        have h1 := ok.hS t dst ht hd
        have h2 := ok.hD t dst ht hd
        have h3 := ok.cost t ht
        simp only [may, Bool.and_eq_true, decide_eq_true_eq] at hm
        exact ⟨h1, by simp only [key]; omega, by simp only [key]; omega, fun hh => by simp only [key] at hh; omega⟩
    generalize choose s dst 6 = w at *
    obtain ⟨a, b, c, d⟩ := key2
    refine ⟨fun k hk => ?_, fun k hk => ?_, fun k hk => ?_, fun k hk => ?_, fun k hk => ?_⟩
    · have := h.bS k hk
      simp only [lay]; split
      · unfold up; split <;> omega
      · exact this
    · have := h.wS k hk
      simp only [lay, up]; split <;> omega
    · have := h.lo k hk
      simp only [lay, up]; split <;> omega
    · have := h.hi k hk
      simp only [lay, up]; split <;> omega
    · have := h.drop k hk
      simp only [lay, up]; split
      · exact d
      · exact this
theorem Wy.all {s : NS} (ok : Ok s) (h : Wy s) : ∀ k, k ≤ 6 → Wy (all s k)
  | 0, _ => h
  | k + 1, hk => Wy.pick (ok.all k) (Wy.all ok h k (by omega)) (by omega)
theorem Wy.same {s s' : NS} (h : Wy s) (e1 : s'.bS = s.bS) (e2 : s'.wS = s.wS) (e3 : s'.wD = s.wD) (e4 : s'.wH = s.wH) : Wy s' :=
  ⟨by rw [e1]; exact h.bS, by rw [e2]; exact h.wS, by rw [e3]; exact h.lo, by rw [e3]; exact h.hi, by rw [e3, e4]; exact h.drop⟩
theorem Wy.link {s : NS} (ok : Ok s) (h : Wy s) (who : Nat) (c : Int) (h0 : 0 ≤ c) (h1 : c ≤ 15) : Wy (link s who c) := by
  unfold Nd.link
  dsimp only
  split
  · exact Wy.all (Ok.forget (Ok.cost' ok who c h0 h1) who) (h.same rfl rfl rfl rfl) 6 (by omega)
  · exact Wy.all (Ok.cost' ok who c h0 h1) (h.same rfl rfl rfl rfl) 6 (by omega)
theorem Wy.linkC {s : NS} (ok : Ok s) (h : Wy s) (who c : Int) : Wy (linkC s who c).1 := by
  unfold Nd.linkC; split
  · exact h
  · rename_i hb
    simp only [linkBad] at hb
    exact Wy.link ok h _ c (by omega) (by omega)
theorem Wy.hearC {s : NS} (ok : Ok s) (h : Wy s) (f t q d : Int) : Wy (hearC s f t q d).1 := by
  unfold Nd.hearC; split
  · exact h
  · rename_i hb
    simp only [hearBad] at hb
    split
    · exact h
    · exact Wy.pick (ok.heard _ _ q d (by omega) (by omega) (by omega)) (h.same rfl rfl rfl rfl) (by omega)
theorem Wy.tick {s : NS} (h : Wy s) (hw : 0 ≤ s.wS s.me) : Wy (tick s) := by
  refine ⟨fun k hk => ?_, fun k hk => ?_, fun k hk => ?_, fun k hk => ?_, fun k hk => ?_⟩
  · have := h.bS k hk
    simp only [Nd.tick, own, up, if_true]; split <;> omega
  · have := h.wS k hk
    simp only [Nd.tick, own, up]; split <;> omega
  · have := h.lo k hk
    simp only [Nd.tick, own, up]; split <;> omega
  · have := h.hi k hk
    simp only [Nd.tick, own, up]; split <;> omega
  · have := h.drop k hk
    simp only [Nd.tick, own, up]; split
    · intro hh; omega
    · exact this
theorem Wy.fresh (me : Nat) : Wy (fresh me) := by
  refine ⟨fun k hk => ?_, fun k hk => ?_, fun k hk => ?_, fun k hk => ?_, fun k hk => ?_⟩
  · simp only [Nd.fresh, own, newK, up]; split <;> omega
  · simp only [Nd.fresh, own, newK]; omega
  · simp only [Nd.fresh, own, newK, up, hk, if_true]; split <;> omega
  · simp only [Nd.fresh, own, newK, up, hk, if_true]; split <;> omega
  · simp only [Nd.fresh, own, newK, up, hk, if_true]; split
    · intro hh; omega
    · intro _; rfl
theorem Wy.step {s : NS} {n : Nat} (r : Run s n) (h : Wy s) (x0 x1 x2 x4 x5 x6 : Int) : Wy (stepN s x0 x1 x2 x4 x5 x6) := by
  unfold stepN
  split
  · exact Wy.linkC r.ok h _ _
  · split
    · exact Wy.hearC r.ok h _ _ _ _
    · split
      · exact Wy.tick h r.lo
      · exact h
theorem runN_wy {me : Nat} (h : me < 6) (X : Nat → Int) : ∀ k, Wy (runN me X k)
  | 0 => Wy.fresh me
  | k + 1 => Wy.step (runN_run h X k) (runN_wy h X k) _ _ _ _ _ _

/- The new one. -/
/-- The new node behind the first i news. -/
structure Lrn (s : NS) (who : Nat) (c : Int) (i : Nat) (x : NS) : Prop where
  me : x.me = who
  cost : ∀ k, x.cost k = if k = s.me then c else 0
  hS : ∀ j, j < 6 → x.hS s.me j = if j < i then s.wS j else 0
  hD : ∀ j, j < 6 → x.hD s.me j = if j < i then s.wD j else 200
  bS : ∀ j, j < 6 → i ≤ j → x.bS j = 0
  bD : ∀ j, j < 6 → i ≤ j → j ≠ who → x.bD j = 200
  wS : x.wS who = 0
  wD : x.wD who = 0
  wH : x.wH who = who
  drop : ∀ j, j < i → j ≠ who → 200 ≤ s.wD j + c → x.wH j = -1
  way : ∀ j, j < i → j ≠ who → s.wD j + c < 200 → x.wS j = s.wS j ∧ x.wD j = s.wD j + c ∧ x.wH j = s.me

theorem pick_none {x : NS} {dst : Nat} (hd : dst ≠ x.me) (h : ∀ k, k < 6 → may x k dst = false) : pick x dst = { x with wS := up x.wS dst (x.bS dst), wD := up x.wD dst 200, wH := up x.wH dst (-1) } := by
  unfold Nd.pick
  rw [if_neg hd]
  rcases choose_cases x dst with e | ⟨t, ht, hm, _⟩
  · rw [e, lay_keep _ _ _ (fun hh => hh.1 rfl)]; rfl
  · rw [h t ht] at hm; cases hm

/-- Link of a new node. -/
theorem lrn_all {x : NS} {f : Nat} {c : Int} (hc : ∀ k, x.cost k = if k = f then c else 0) (c1 : 1 ≤ c) (hD : ∀ j, j < 6 → x.hD f j = 200) (hb : ∀ j, j < 6 → x.bS j = 0) (hbd : ∀ j, j < 6 → j ≠ x.me → x.bD j = 200) (hS : ∀ j, j < 6 → x.hS f j = 0) :
    ∀ k, k ≤ 6 → (all x k).me = x.me ∧ (all x k).cost = x.cost ∧ (all x k).hS = x.hS ∧ (all x k).hD = x.hD ∧ (all x k).bS = x.bS ∧ (all x k).bD = x.bD ∧ (all x k).wS x.me = x.wS x.me ∧ (all x k).wD x.me = x.wD x.me ∧ (all x k).wH x.me = x.wH x.me
  | 0, _ => ⟨rfl, rfl, rfl, rfl, rfl, rfl, rfl, rfl, rfl⟩
  | k + 1, hk => by
    obtain ⟨e1, e2, e3, e4, e5, e6, e7, e8, e9⟩ := lrn_all hc c1 hD hb hbd hS k (by omega)
    rw [all]
    generalize all x k = y at *
    by_cases hm : k = x.me
    · have : pick y k = y := by rw [Nd.pick, if_pos (by rw [e1]; exact hm)]
      rw [this]
      exact ⟨e1, e2, e3, e4, e5, e6, e7, e8, e9⟩
    · have hp : pick y k = { y with wS := up y.wS k (y.bS k), wD := up y.wD k 200, wH := up y.wH k (-1) } := by
        refine pick_none (by rw [e1]; exact hm) (fun t ht => ?_)
        simp only [may, Bool.and_eq_false_iff, decide_eq_false_iff_not]
        by_cases htf : t = f
        · subst htf
          have h2 := hD k (by omega)
          have h3 : y.cost t = c := by rw [e2, hc, if_pos rfl]
          refine .inl ?_
          rw [e4, h2, h3]; omega
        · have h3 : y.cost t = 0 := by rw [e2, hc, if_neg htf]
          refine .inl ?_
          rw [h3]; omega
      rw [hp]
      have hne : x.me ≠ k := fun e => hm e.symm
      exact ⟨e1, e2, e3, e4, e5, e6, by rw [← e7]; exact up_other _ _ _ _ hne, by rw [← e8]; exact up_other _ _ _ _ hne, by rw [← e9]; exact up_other _ _ _ _ hne⟩

theorem lrn_start {s : NS} {who : Nat} {c : Int} (_hw : who < 6) (hme : s.me < 6) (c1 : 1 ≤ c) : Lrn s who c 0 (link (fresh who) s.me c) := by
  have hl : link (fresh who) s.me c = all { fresh who with cost := up (fresh who).cost s.me c } 6 := by
    unfold Nd.link; dsimp only; rw [if_neg (by omega)]
  rw [hl]
  obtain ⟨e1, e2, e3, e4, e5, e6, e7, e8, e9⟩ := lrn_all (x := { fresh who with cost := up (fresh who).cost s.me c }) (f := s.me) (c := c) (fun k => by simp [Nd.fresh, own, newK, up]) c1 (fun j hj => by simp [Nd.fresh, own, newK, hme, hj]) (fun j hj => by simp [Nd.fresh, own, newK, up]) (fun j hj hne => by
    have : j ≠ who := hne
    simp [Nd.fresh, own, newK, up, hj, this]) (fun j hj => by simp [Nd.fresh, own, newK]) 6 (by omega)
  generalize all { fresh who with cost := up (fresh who).cost s.me c } 6 = y at *
  exact {
    me := by rw [e1]; rfl
    cost := fun k => by rw [e2]; simp [Nd.fresh, own, newK, up]
    hS := fun j hj => by rw [e3]; simp [Nd.fresh, own, newK]
    hD := fun j hj => by rw [e4]; simp [Nd.fresh, own, newK, hme, hj]
    bS := fun j hj _ => by rw [e5]; simp [Nd.fresh, own, newK, up]
    bD := fun j hj _ hne => by rw [e6]; simp [Nd.fresh, own, newK, up, hj, hne]
    wS := by have : y.wS who = (fresh who).wS who := e7; rw [this]; simp [Nd.fresh, own, newK]
    wD := by have : y.wD who = (fresh who).wD who := e8; rw [this]; simp [Nd.fresh, own, newK]
    wH := by have : y.wH who = (fresh who).wH who := e9; rw [this]; simp [Nd.fresh, own, newK]
    drop := fun j hj => by omega
    way := fun j hj => by omega }

theorem lrn_next {s : NS} {who : Nat} {c : Int} {i : Nat} {x : NS} (h : Lrn s who c i x) (_hw : who < 6) (hme : s.me < 6) (hne : s.me ≠ who) (c1 : 1 ≤ c) (c2 : c ≤ 15) (hi : i < 6) (wy : Wy s) :
    (hearC x s.me i (s.wS i) (s.wD i)).2 = 0 ∧ Lrn s who c (i + 1) (hearC x s.me i (s.wS i) (s.wD i)).1 := by
  have w1 := wy.wS i hi
  have w2 := wy.lo i hi
  have w3 := wy.hi i hi
  have hxm := h.me
  have hnb : ¬ hearBad x s.me i (s.wS i) (s.wD i) := by
    simp only [hearBad, hxm]; omega
  have hcs : x.cost s.me = c := by rw [h.cost, if_pos rfl]
  have hcz : x.cost (s.me : Int).toNat ≠ 0 := by rw [Int.toNat_natCast, hcs]; omega
  have hE : hearC x s.me i (s.wS i) (s.wD i) = (hear x s.me i (s.wS i) (s.wD i), 0) := by
    unfold hearC
    rw [if_neg hnb, if_neg hcz, Int.toNat_natCast, Int.toNat_natCast]
  rw [hE]
  refine ⟨rfl, ?_⟩
  show Lrn s who c (i + 1) (pick { x with hS := up2 x.hS s.me i (s.wS i), hD := up2 x.hD s.me i (s.wD i) } i)
  have hS' : ∀ j, j < 6 → up2 x.hS s.me i (s.wS i) s.me j = if j < i + 1 then s.wS j else 0 := fun j hj => by
    simp only [up2, true_and]
    by_cases e : j = i
    · subst e; rw [if_pos rfl, if_pos (by omega)]
    · rw [if_neg e, h.hS j hj]
      have : j < i + 1 ↔ j < i := by omega
      simp only [this]
  have hD' : ∀ j, j < 6 → up2 x.hD s.me i (s.wD i) s.me j = if j < i + 1 then s.wD j else 200 := fun j hj => by
    simp only [up2, true_and]
    by_cases e : j = i
    · subst e; rw [if_pos rfl, if_pos (by omega)]
    · rw [if_neg e, h.hD j hj]
      have : j < i + 1 ↔ j < i := by omega
      simp only [this]
  generalize hz : ({ x with hS := up2 x.hS s.me i (s.wS i), hD := up2 x.hD s.me i (s.wD i) } : NS) = z
  have z1 : z.me = who := by rw [← hz]; exact hxm
  have z2 : z.cost = x.cost := by rw [← hz]
  have z3 : z.wS = x.wS := by rw [← hz]
  have z4 : z.wD = x.wD := by rw [← hz]
  have z5 : z.wH = x.wH := by rw [← hz]
  have z6 : z.bS = x.bS := by rw [← hz]
  have z7 : z.bD = x.bD := by rw [← hz]
  have zS : ∀ j, j < 6 → z.hS s.me j = if j < i + 1 then s.wS j else 0 := fun j hj => by rw [← hz]; exact hS' j hj
  have zD : ∀ j, j < 6 → z.hD s.me j = if j < i + 1 then s.wD j else 200 := fun j hj => by rw [← hz]; exact hD' j hj
  clear hz hS' hD'
  by_cases hiw : i = who
  · have hp : pick z i = z := by rw [Nd.pick, if_pos (by rw [z1]; exact hiw)]
    rw [hp]
    exact {
      me := z1
      cost := fun k => by rw [z2]; exact h.cost k
      hS := zS
      hD := zD
      bS := fun j hj h2 => by rw [z6]; exact h.bS j hj (by omega)
      bD := fun j hj h2 h3 => by rw [z7]; exact h.bD j hj (by omega) h3
      wS := by rw [z3]; exact h.wS
      wD := by rw [z4]; exact h.wD
      wH := by rw [z5]; exact h.wH
      drop := fun j hj h2 h3 => by rw [z5]; exact h.drop j (by omega) h2 h3
      way := fun j hj h2 h3 => by rw [z3, z4, z5]; exact h.way j (by omega) h2 h3 }
  · have mayO : ∀ k, k < 6 → k ≠ s.me → may z k i = false := fun k hk hks => by
      have : z.cost k = 0 := by rw [z2, h.cost, if_neg hks]
      simp only [may, this, Bool.and_eq_false_iff, decide_eq_false_iff_not]
      exact .inl (by omega)
    have hzi : z.hD s.me i = s.wD i := by rw [zD i hi, if_pos (by omega)]
    have hzs : z.hS s.me i = s.wS i := by rw [zS i hi, if_pos (by omega)]
    have hzc : z.cost s.me = c := by rw [z2]; exact hcs
    have hb1 : z.bS i = 0 := by rw [z6]; exact h.bS i hi (Nat.le_refl _)
    have hb2 : z.bD i = 200 := by rw [z7]; exact h.bD i hi (Nat.le_refl _) hiw
    have hwi : who ≠ i := fun e => hiw e.symm
    by_cases hfar : 200 ≤ s.wD i + c
    · have hp := pick_none (x := z) (dst := i) (by rw [z1]; exact hiw) (fun k hk => by
        by_cases e : k = s.me
        · subst e
          simp only [may, hzi, hzc, Bool.and_eq_false_iff, decide_eq_false_iff_not]
          exact .inl (by omega)
        · exact mayO k hk e)
      rw [hp]
      exact {
        me := z1
        cost := fun k => by rw [← h.cost k, ← z2]
        hS := zS
        hD := zD
        bS := fun j hj h2 => by show z.bS j = 0; rw [z6]; exact h.bS j hj (by omega)
        bD := fun j hj h2 h3 => by show z.bD j = 200; rw [z7]; exact h.bD j hj (by omega) h3
        wS := by show up z.wS i _ who = 0; rw [up_other _ _ _ _ hwi, z3]; exact h.wS
        wD := by show up z.wD i _ who = 0; rw [up_other _ _ _ _ hwi, z4]; exact h.wD
        wH := by show up z.wH i _ who = who; rw [up_other _ _ _ _ hwi, z5]; exact h.wH
        drop := fun j hj h2 h3 => by
          show up z.wH i (-1) j = -1
          by_cases e : j = i
          · subst e; exact up_same _ _ _
          · rw [up_other _ _ _ _ e, z5]; exact h.drop j (by omega) h2 h3
        way := fun j hj h2 h3 => by
          have e : j ≠ i := fun e => by subst e; omega
          show up z.wS i _ j = _ ∧ up z.wD i _ j = _ ∧ up z.wH i _ j = _
          rw [up_other _ _ _ _ e, up_other _ _ _ _ e, up_other _ _ _ _ e, z3, z4, z5]
          exact h.way j (by omega) h2 h3 }
    · have hmay : may z s.me i = true := by
        simp only [may, hzi, hzs, hzc, hb1, hb2, Bool.and_eq_true, decide_eq_true_eq, betB_iff]
        omega
      have hch : choose z i 6 = key z i s.me := by
        rcases choose_spec z i 6 with ⟨_, h2⟩ | ⟨t, ht, h1⟩
        · rw [h2 s.me hme] at hmay; cases hmay
        · by_cases e : t = s.me
          · rw [h1, e]
          · have := mayO t ht.lt e; rw [ht.may] at this; cases this
      have hp : pick z i = lay z i (key z i s.me) := by rw [Nd.pick, if_neg (by rw [z1]; exact hiw), hch]
      have hk : key z i s.me = ⟨s.wS i, s.wD i + c, s.me⟩ := by simp only [key, hzi, hzs, hzc]
      rw [hp, hk]
      have hbet : ((s.me : Int) ≠ -1 ∧ betB (s.wS i) (s.wD i + c) (z.bS i) (z.bD i) = true) := ⟨by omega, by rw [betB_iff, hb1, hb2]; omega⟩
      rw [lay_best _ _ _ hbet]
      exact {
        me := z1
        cost := fun k => by rw [← h.cost k, ← z2]
        hS := zS
        hD := zD
        bS := fun j hj h2 => by show up z.bS i _ j = 0; rw [up_other _ _ _ _ (by omega), z6]; exact h.bS j hj (by omega)
        bD := fun j hj h2 h3 => by show up z.bD i _ j = 200; rw [up_other _ _ _ _ (by omega), z7]; exact h.bD j hj (by omega) h3
        wS := by show up z.wS i _ who = 0; rw [up_other _ _ _ _ hwi, z3]; exact h.wS
        wD := by show up z.wD i _ who = 0; rw [up_other _ _ _ _ hwi, z4]; exact h.wD
        wH := by show up z.wH i _ who = who; rw [up_other _ _ _ _ hwi, z5]; exact h.wH
        drop := fun j hj h2 h3 => by
          have e : j ≠ i := fun e => by subst e; omega
          show up z.wH i _ j = -1
          rw [up_other _ _ _ _ e, z5]; exact h.drop j (by omega) h2 h3
        way := fun j hj h2 h3 => by
          show up z.wS i _ j = _ ∧ up z.wD i _ j = _ ∧ up z.wH i _ j = _
          by_cases e : j = i
          · subst e; simp
          · rw [up_other _ _ _ _ e, up_other _ _ _ _ e, up_other _ _ _ _ e, z3, z4, z5]
            exact h.way j (by omega) h2 h3 }
end Go.Proofs.Ytdpgbgapelgomaa.Nd
