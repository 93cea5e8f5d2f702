/- Plain mathematics of least distances on six nodes: what solves the equations of least distances is one alone; a Dijkstra step keeps what it needs; repeated relaxation comes to the same. No program in sight. -/
import Derived.Test.YteedndapbfihaaaGreatB1
namespace Go.Proofs.YteedndapbfihaaaGreat.Lk

def upd (f : Nat → Int) (i : Nat) (v : Int) : Nat → Int := fun j => if j = i then v else f j
theorem upd_same (f : Nat → Int) (i : Nat) (v : Int) : upd f i v i = v := by simp [upd]
theorem upd_other (f : Nat → Int) (i j : Nat) (v : Int) (h : j ≠ i) : upd f i v j = f j := by simp [upd, h]

/-- Costs of links of six nodes. -/
structure CostOK (C : Nat → Nat → Int) : Prop where
  lo : ∀ a b, a < 6 → b < 6 → 0 ≤ C a b
  hi : ∀ a b, a < 6 → b < 6 → C a b ≤ 15
  sym : ∀ a b, a < 6 → b < 6 → C a b = C b a
  self : ∀ a, a < 6 → C a a = 0

/-- The equations of least distances from 's' (which need be no node). -/
structure Sol (C : Nat → Nat → Int) (s : Int) (d : Nat → Int) : Prop where
  lo : ∀ v, v < 6 → 0 ≤ d v
  hi : ∀ v, v < 6 → d v ≤ 200
  src : ∀ v : Nat, v < 6 → (v : Int) = s → d v = 0
  step : ∀ a b, a < 6 → b < 6 → 0 < C a b → d b ≤ d a + C a b
  pred : ∀ v, v < 6 → d v < 200 → (v : Int) = s ∨ ∃ a, a < 6 ∧ 0 < C a v ∧ d v = d a + C a v

theorem Sol.le {C : Nat → Nat → Int} {s : Int} {d e : Nat → Int} (hd : Sol C s d) (he : Sol C s e) : ∀ v, v < 6 → d v ≤ e v := by
  have key : ∀ n : Nat, ∀ v, v < 6 → (e v).toNat = n → d v ≤ e v := by
    intro n
    induction n using Nat.strongRecOn with
    | _ n ih =>
      intro v hv hn
      by_cases h : e v < 200
      · rcases he.pred v hv h with h0 | ⟨a, ha, hc, hs⟩
        · have := hd.src v hv h0; have := he.lo v hv; omega
        · have h1 := he.lo a ha
          have h2 := he.lo v hv
          have := ih (e a).toNat (by omega) a ha rfl
          have := hd.step a v ha hv hc
          omega
      · have := hd.hi v hv; omega
  exact fun v hv => key _ v hv rfl

/-- One solution alone. -/
theorem Sol.uniq {C : Nat → Nat → Int} {s : Int} {d e : Nat → Int} (hd : Sol C s d) (he : Sol C s e) (v : Nat) (hv : v < 6) : d v = e v := by
  have := hd.le he v hv
  have := he.le hd v hv
  omega

theorem Sol.congr {C C' : Nat → Nat → Int} {s : Int} {d e : Nat → Int} (hd : Sol C s d) (hC : ∀ a b, a < 6 → b < 6 → C a b = C' a b) (he : ∀ v, v < 6 → d v = e v) : Sol C' s e where
  lo v hv := by rw [← he v hv]; exact hd.lo v hv
  hi v hv := by rw [← he v hv]; exact hd.hi v hv
  src v hv h := by rw [← he v hv]; exact hd.src v hv h
  step a b ha hb h := by rw [← he a ha, ← he b hb, ← hC a b ha hb]; exact hd.step a b ha hb (by rw [hC a b ha hb]; exact h)
  pred v hv h := by
    rw [← he v hv] at h
    rcases hd.pred v hv h with h0 | ⟨a, ha, hc, hs⟩
    · exact .inl h0
    · exact .inr ⟨a, ha, by rw [← hC a v ha hv]; exact hc, by rw [← he v hv, ← he a ha, ← hC a v ha hv]; exact hs⟩

/- How many nodes are nearer. -/
def rank (d : Nat → Int) (v : Nat) : Nat := (List.range 6).countP (fun u => decide (d u < d v))

theorem countP_le_of {p q : Nat → Bool} (l : List Nat) (h : ∀ x ∈ l, p x = true → q x = true) : l.countP p ≤ l.countP q := by
  exact List.countP_mono_left h

theorem countP_lt_of {p q : Nat → Bool} : ∀ (l : List Nat), (∀ x ∈ l, p x = true → q x = true) → (∃ x ∈ l, p x = false ∧ q x = true) → l.countP p < l.countP q
  | [], _, ⟨x, hx, _⟩ => by simp at hx
  | y :: l, h, ⟨x, hx, hp, hq⟩ => by
    have hl : ∀ x ∈ l, p x = true → q x = true := fun x hx => h x (List.mem_cons_of_mem _ hx)
    have hle := countP_le_of l hl
    simp only [List.countP_cons]
    rcases List.mem_cons.1 hx with rfl | hx'
    · simp [hp, hq]; omega
    · have := countP_lt_of l hl ⟨x, hx', hp, hq⟩
      have hy := h y (List.mem_cons_self ..)
      cases hpy : p y
      · simp; omega
      · simp [hy hpy]; omega

theorem rank_lt {d : Nat → Int} {a v : Nat} (ha : a < 6) (h : d a < d v) : rank d a < rank d v := by
  refine countP_lt_of _ ?_ ⟨a, by simpa using ha, by simp, by simpa using h⟩
  intro x _ hx
  simp only [decide_eq_true_eq] at hx ⊢
  omega

theorem rank_le (d : Nat → Int) (v : Nat) (hv : v < 6) : rank d v < 6 := by
  have h : rank d v < (List.range 6).countP (fun _ => true) := countP_lt_of _ (by simp) ⟨v, by simpa using hv, by simp, rfl⟩
  simpa using h

/-- A walk along the ways back to the source: whatever holds of the source, and goes from the one ahead to the next, holds of all that have a way. -/
theorem Sol.ind {C : Nat → Nat → Int} {s : Int} {d : Nat → Int} (hd : Sol C s d) (p : Nat → Prop) (h0 : ∀ v : Nat, v < 6 → (v : Int) = s → p v)
    (h1 : ∀ a v, a < 6 → v < 6 → 0 < C a v → d a < 200 → d v < 200 → d v = d a + C a v → p a → p v) : ∀ v, v < 6 → d v < 200 → p v := by
  have key : ∀ n : Nat, ∀ v, v < 6 → (d v).toNat = n → d v < 200 → p v := by
    intro n
    induction n using Nat.strongRecOn with
    | _ n ih =>
      intro v hv hn h
      rcases hd.pred v hv h with hs | ⟨a, ha, hc, hs⟩
      · exact h0 v hv hs
      · have h2 := hd.lo a ha
        have h3 := hd.lo v hv
        exact h1 a v ha hv hc (by omega) h hs (ih (d a).toNat (by omega) a ha rfl (by omega))
  exact fun v hv h => key _ v hv rfl h

/-- No farther than by a node between. -/
theorem tri {C : Nat → Nat → Int} {s t : Nat} {d e : Nat → Int} (ht : t < 6) (hd : Sol C s d) (he : Sol C t e) (v : Nat) (hv : v < 6) (h : d t + e v < 200) : d v ≤ d t + e v := by
  have hlo := hd.lo t ht
  refine he.ind (fun v => d v ≤ d t + e v) ?_ ?_ v hv (by omega)
  · intro v hv hs
    have : v = t := by omega
    subst this
    have := he.src v hv rfl
    omega
  · intro a v ha hv hc _ _ hs hp
    have := hd.step a v ha hv hc
    omega

/-- As far as back, one half. -/
theorem back_le {C : Nat → Nat → Int} (hC : CostOK C) {f : Nat → Nat → Int} (hf : ∀ s : Nat, s < 6 → Sol C s (f s)) (a b : Nat) (ha : a < 6) (hb : b < 6) : f b a ≤ f a b := by
  by_cases h : f a b < 200
  · refine (hf a ha).ind (fun v => f v a ≤ f a v) ?_ ?_ b hb h
    · intro v hv hs
      have : v = a := by omega
      subst this
      exact Int.le_refl _
    · intro u v hu hv hc _ h2 hs hp
      have hc' : 0 < C v u := by rw [hC.sym v u hv hu]; exact hc
      have h1 : f v u ≤ C v u := by
        have := (hf v hv).step v u hv hu hc'
        have := (hf v hv).src v hv rfl
        omega
      have h3 := hC.sym v u hv hu
      have := tri hu (hf v hv) (hf u hu) a ha (by omega)
      omega
  · have := (hf b hb).hi a ha
    omega

theorem back {C : Nat → Nat → Int} (hC : CostOK C) {f : Nat → Nat → Int} (hf : ∀ s : Nat, s < 6 → Sol C s (f s)) (a b : Nat) (ha : a < 6) (hb : b < 6) : f a b = f b a := by
  have := back_le hC hf a b ha hb
  have := back_le hC hf b a hb ha
  omega

/- Repeated relaxation. -/
def relax (C : Nat → Nat → Int) (o : Nat → Int) (a b : Nat) : Nat → Int := if 0 < C a b ∧ o a < 200 ∧ o a + C a b < o b then upd o b (o a + C a b) else o
def bfB (C : Nat → Nat → Int) (a : Nat) (o : Nat → Int) : Nat → (Nat → Int)
  | 0 => o
  | j + 1 => relax C (bfB C a o j) a j
def bfA (C : Nat → Nat → Int) (o : Nat → Int) : Nat → (Nat → Int)
  | 0 => o
  | i + 1 => bfB C i (bfA C o i) 6
def bfK (C : Nat → Nat → Int) (o : Nat → Int) : Nat → (Nat → Int)
  | 0 => o
  | k + 1 => bfA C (bfK C o k) 6
def start (s : Int) : Nat → Int := fun n => if (n : Int) = s then 0 else 200
def far (C : Nat → Nat → Int) (s : Int) : Nat → Int := bfK C (start s) 6

section
variable {C : Nat → Nat → Int} {s : Int} {d : Nat → Int}

/-- What relaxation keeps: nobody below the solution, nobody above 200, nobody raised. -/
def Over (d o : Nat → Int) : Prop := ∀ v, v < 6 → d v ≤ o v ∧ o v ≤ 200

theorem relax_over (hd : Sol C s d) {o : Nat → Int} (h : Over d o) {a b : Nat} (ha : a < 6) (hb : b < 6) : Over d (relax C o a b) := by
  intro v hv
  unfold relax
  split
  · rename_i hc
    by_cases e : v = b
    · subst e
      rw [upd_same]
      have := hd.step a v ha hv hc.1
      have := h a ha
      have := h v hv
      omega
    · rw [upd_other _ _ _ _ e]; exact h v hv
  · exact h v hv

theorem relax_le (o : Nat → Int) (a b v : Nat) : relax C o a b v ≤ o v := by
  unfold relax
  split
  · rename_i hc
    by_cases e : v = b
    · subst e; rw [upd_same]; omega
    · rw [upd_other _ _ _ _ e]; exact Int.le_refl _
  · exact Int.le_refl _

theorem relax_hit (o : Nat → Int) (a b : Nat) (hc : 0 < C a b) (ha : o a < 200) : relax C o a b b ≤ o a + C a b := by
  unfold relax
  split
  · rw [upd_same]; exact Int.le_refl _
  · omega

theorem bfB_over (hd : Sol C s d) {o : Nat → Int} (h : Over d o) {a : Nat} (ha : a < 6) : ∀ j, j ≤ 6 → Over d (bfB C a o j)
  | 0, _ => h
  | j + 1, hj => relax_over hd (bfB_over hd h ha j (by omega)) ha (by omega)
theorem bfA_over (hd : Sol C s d) {o : Nat → Int} (h : Over d o) : ∀ i, i ≤ 6 → Over d (bfA C o i)
  | 0, _ => h
  | i + 1, hi => bfB_over hd (bfA_over hd h i (by omega)) (by omega) 6 (by omega)
theorem bfK_over (hd : Sol C s d) {o : Nat → Int} (h : Over d o) : ∀ k, Over d (bfK C o k)
  | 0 => h
  | k + 1 => bfA_over hd (bfK_over hd h k) 6 (by omega)
theorem bfB_le (o : Nat → Int) (a v : Nat) : ∀ j, bfB C a o j v ≤ o v
  | 0 => Int.le_refl _
  | j + 1 => Int.le_trans (relax_le _ _ _ _) (bfB_le o a v j)
theorem bfA_le (o : Nat → Int) (v : Nat) : ∀ i, bfA C o i v ≤ o v
  | 0 => Int.le_refl _
  | i + 1 => Int.le_trans (bfB_le _ _ _ _) (bfA_le o v i)

/-- A node that is final stays final. -/
theorem over_keep {o o' : Nat → Int} (ho : Over d o') (hle : ∀ v, o' v ≤ o v) {v : Nat} (hv : v < 6) (h : o v = d v) : o' v = d v := by
  have := ho v hv; have := hle v; omega

theorem bfB_final (hd : Sol C s d) {o : Nat → Int} (h : Over d o) {a v : Nat} (ha : a < 6) (hv : v < 6) (hc : 0 < C a v) (hs : d v = d a + C a v) (hv2 : d v < 200) (hfin : o a = d a) :
    ∀ j, v < j → j ≤ 6 → bfB C a o j v = d v
  | 0, hj, _ => by omega
  | j + 1, hj, hj6 => by
    have hov := bfB_over hd h ha j (by omega)
    have hov' := bfB_over hd h ha (j + 1) hj6
    by_cases e : v = j
    · subst e
      have h1 : bfB C a o v a = d a := over_keep hov (fun u => bfB_le o a u v) ha hfin
      have h2 : bfB C a o (v + 1) v ≤ bfB C a o v a + C a v := relax_hit _ _ _ hc (by omega)
      have := hov' v hv
      omega
    · have h1 := bfB_final hd h ha hv hc hs hv2 hfin j (by omega) (by omega)
      exact over_keep hov' (fun u => relax_le _ _ _ _) hv h1

theorem bfA_final (hd : Sol C s d) {o : Nat → Int} (h : Over d o) {a v : Nat} (ha : a < 6) (hv : v < 6) (hc : 0 < C a v) (hs : d v = d a + C a v) (hv2 : d v < 200) (hfin : o a = d a) :
    ∀ i, a < i → i ≤ 6 → bfA C o i v = d v
  | 0, hi, _ => by omega
  | i + 1, hi, hi6 => by
    have hov := bfA_over hd h i (by omega)
    have hov' := bfA_over hd h (i + 1) hi6
    by_cases e : a = i
    · subst e
      have h1 : bfA C o a a = d a := over_keep hov (fun u => bfA_le o u a) ha hfin
      exact bfB_final hd hov ha hv hc hs hv2 h1 6 hv (by omega)
    · have h1 := bfA_final hd h ha hv hc hs hv2 hfin i (by omega) (by omega)
      exact over_keep hov' (fun u => bfB_le _ _ _ _) hv h1

theorem bfK_final (hd : Sol C s d) (hpos : ∀ a b, a < 6 → b < 6 → 0 ≤ C a b) : ∀ k v, v < 6 → d v < 200 → rank d v < k → bfK C (start s) k v = d v
  | 0, _, _, _, h => by omega
  | k + 1, v, hv, h2, hr => by
    have hst : Over d (start s) := by
      intro u hu
      unfold start
      split
      · rename_i e; have := hd.src u hu e; omega
      · exact ⟨hd.hi u hu, Int.le_refl _⟩
    have hov := bfK_over hd hst k
    have hov' := bfK_over hd hst (k + 1)
    have hle : ∀ m u, bfK C (start s) m u ≤ start s u := by
      intro m
      induction m with
      | zero => exact fun _ => Int.le_refl _
      | succ m ih => exact fun u => Int.le_trans (bfA_le _ _ _) (ih u)
    rcases hd.pred v hv h2 with h0 | ⟨a, ha, hc, hs⟩
    · refine over_keep hov' (hle _) hv ?_
      rw [hd.src v hv h0]
      simp [start, h0]
    · have hr' : rank d a < rank d v := rank_lt ha (by omega)
      exact bfA_final hd hov ha hv hc hs h2 (bfK_final hd hpos k a ha (by omega) (by omega)) 6 ha (by omega)

/-- Relaxation six times comes to the solution, if there is one. -/
theorem far_eq (hd : Sol C s d) (hpos : ∀ a b, a < 6 → b < 6 → 0 ≤ C a b) (v : Nat) (hv : v < 6) : far C s v = d v := by
  have hst : Over d (start s) := by
    intro u hu
    unfold start
    split
    · rename_i e; have := hd.src u hu e; omega
    · exact ⟨hd.hi u hu, Int.le_refl _⟩
  have hov := bfK_over hd hst 6 v hv
  by_cases h : d v < 200
  · exact bfK_final hd hpos 6 v hv h (rank_le d v hv)
  · unfold far; omega

/- Dijkstra: what holds ahead of each turn. 'done': the nodes that are done. -/
structure Dij (C : Nat → Nat → Int) (s : Int) (o : Nat → Int) (done : Nat → Bool) : Prop where
  lo : ∀ v, v < 6 → 0 ≤ o v
  hi : ∀ v, v < 6 → o v ≤ 200
  src : ∀ v : Nat, v < 6 → (v : Int) = s → o v = 0
  fin : ∀ a, a < 6 → done a = true → o a < 200
  ord : ∀ a b, a < 6 → b < 6 → done a = true → done b = false → o a ≤ o b
  step : ∀ a b, a < 6 → b < 6 → done a = true → 0 < C a b → o b ≤ o a + C a b
  pred : ∀ v, v < 6 → o v < 200 → (v : Int) = s ∨ ∃ a, a < 6 ∧ done a = true ∧ 0 < C a v ∧ o v = o a + C a v

theorem Dij.start (C : Nat → Nat → Int) (s : Int) : Dij C s (start s) (fun _ => false) where
  lo v _ := by unfold Lk.start; split <;> omega
  hi v _ := by unfold Lk.start; split <;> omega
  src v _ h := by simp [Lk.start, h]
  fin _ _ h := by simp at h
  ord _ _ _ _ h := by simp at h
  step _ _ _ _ h := by simp at h
  pred v _ h := by
    unfold Lk.start at h
    split at h
    · exact .inl ‹_›
    · omega

theorem Dij.next {o o' : Nat → Int} {done done' : Nat → Bool} (hC : CostOK C) (h : Dij C s o done) {t : Nat} (ht : t < 6) (htd : done t = false) (ht2 : o t < 200)
    (hmin : ∀ n, n < 6 → done n = false → o t ≤ o n)
    (hd' : ∀ n, n < 6 → done' n = (done n || decide (n = t))) (ho' : ∀ b, b < 6 → o' b = if 0 < C t b then min (o b) (o t + C t b) else o b) : Dij C s o' done' := by
  have hself := hC.self t ht
  have hot : o' t = o t := by rw [ho' t ht, hself]; simp
  have hle : ∀ b, b < 6 → o' b ≤ o b := by
    intro b hb; rw [ho' b hb]; split
    · exact Int.min_le_left ..
    · exact Int.le_refl _
  have hdone : ∀ a, a < 6 → done a = true → o' a = o a := by
    intro a ha hda
    have := h.ord a t ha ht hda htd
    rw [ho' a ha]; split
    · omega
    · rfl
  have hd1 : ∀ a, a < 6 → done' a = true → done a = true ∨ a = t := by
    intro a ha h'; rw [hd' a ha] at h'; simpa using h'
  have hge : ∀ b, b < 6 → done b = false → o t ≤ o' b := by
    intro b hb hbd
    have := hmin b hb hbd
    rw [ho' b hb]; split <;> omega
  refine ⟨?_, ?_, ?_, ?_, ?_, ?_, ?_⟩
  · intro v hv
    have := h.lo v hv; have := h.lo t ht
    rw [ho' v hv]; split <;> omega
  · intro v hv; have := hle v hv; have := h.hi v hv; omega
  · intro v hv hs
    have h0 := h.src v hv hs
    have := h.lo t ht
    rw [ho' v hv]; split <;> omega
  · intro a ha hda
    rcases hd1 a ha hda with h' | rfl
    · rw [hdone a ha h']; exact h.fin a ha h'
    · rw [hot]; exact ht2
  · intro a b ha hb hda hdb
    have hdb' : done b = false := by rw [hd' b hb] at hdb; simp at hdb; exact hdb.1
    have := hge b hb hdb'
    rcases hd1 a ha hda with h' | rfl
    · rw [hdone a ha h']
      have := h.ord a t ha ht h' htd
      omega
    · rw [hot]; exact this
  · intro a b ha hb hda hc
    rcases hd1 a ha hda with h' | rfl
    · rw [hdone a ha h']
      have := h.step a b ha hb h' hc
      have := hle b hb
      omega
    · rw [hot, ho' b hb, if_pos hc]
      exact Int.min_le_right ..
  · intro v hv h2
    have hdt : done' t = true := by rw [hd' t ht]; simp
    by_cases e : o' v = o v
    · rw [e] at h2
      rcases h.pred v hv h2 with h' | ⟨a, ha, hda, hc, hs⟩
      · exact .inl h'
      · exact .inr ⟨a, ha, by rw [hd' a ha, hda]; rfl, hc, by rw [e, hdone a ha hda]; exact hs⟩
    · have hv' := ho' v hv
      split at hv'
      · rename_i hc
        exact .inr ⟨t, ht, hdt, hc, by rw [hot]; omega⟩
      · exact absurd hv' e

/-- When no node is left that has a way and is not done, it is the solution. -/
theorem Dij.sol {o : Nat → Int} {done : Nat → Bool} (h : Dij C s o done) (hend : ∀ n, n < 6 → done n = false → 200 ≤ o n) : Sol C s o where
  lo := h.lo
  hi := h.hi
  src := h.src
  step a b ha hb hc := by
    cases hda : done a
    · have := hend a ha hda
      have := h.hi b hb
      omega
    · exact h.step a b ha hb hda hc
  pred v hv h2 := by
    rcases h.pred v hv h2 with h' | ⟨a, ha, _, hc, hs⟩
    · exact .inl h'
    · exact .inr ⟨a, ha, hc, hs⟩

/- The nearest that is not done, as it is looked for. -/
def nearest (o : Nat → Int) (done : Nat → Bool) : Nat → Int
  | 0 => -1
  | n + 1 => if done n = false ∧ o n < 200 ∧ (nearest o done n < 0 ∨ o n < o (nearest o done n).toNat) then (n : Int) else nearest o done n

theorem nearest_spec (o : Nat → Int) (done : Nat → Bool) : ∀ n, (nearest o done n = -1 ∧ ∀ m, m < n → done m = false → 200 ≤ o m) ∨
    (∃ t : Nat, nearest o done n = t ∧ t < n ∧ done t = false ∧ o t < 200 ∧ ∀ m, m < n → done m = false → o t ≤ o m)
  | 0 => .inl ⟨rfl, by omega⟩
  | n + 1 => by
    rcases nearest_spec o done n with ⟨h1, h2⟩ | ⟨t, h1, h2, h3, h4, h5⟩
    · by_cases hc : done n = false ∧ o n < 200
      · refine .inr ⟨n, ?_, by omega, hc.1, hc.2, ?_⟩
        · simp [nearest, hc.1, hc.2, h1]
        · intro m hm hd
          by_cases e : m = n
          · subst e; omega
          · have := h2 m (by omega) hd; omega
      · refine .inl ⟨?_, ?_⟩
        · rw [nearest, if_neg (fun h => hc ⟨h.1, h.2.1⟩)]; exact h1
        · intro m hm hd
          by_cases e : m = n
          · subst e
            have : ¬ o m < 200 := fun h => hc ⟨hd, h⟩
            omega
          · exact h2 m (by omega) hd
    · by_cases hc : done n = false ∧ o n < 200 ∧ o n < o t
      · refine .inr ⟨n, ?_, by omega, hc.1, hc.2.1, ?_⟩
        · rw [nearest, if_pos ⟨hc.1, hc.2.1, .inr (by rw [h1]; simpa using hc.2.2)⟩]
        · intro m hm hd
          by_cases e : m = n
          · subst e; omega
          · have := h5 m (by omega) hd; omega
      · refine .inr ⟨t, ?_, by omega, h3, h4, ?_⟩
        · rw [nearest, if_neg]
          · exact h1
          · rintro ⟨a, b, c⟩
            rcases c with c | c
            · omega
            · rw [h1] at c; exact hc ⟨a, b, by simpa using c⟩
        · intro m hm hd
          by_cases e : m = n
          · subst e
            by_cases h6 : o m < 200
            · have : ¬ o m < o t := fun h => hc ⟨hd, h6, h⟩
              omega
            · omega
          · exact h5 m (by omega) hd

theorem nearest_ge (o : Nat → Int) (done : Nat → Bool) (n : Nat) : -1 ≤ nearest o done n ∧ nearest o done n < n := by
  rcases nearest_spec o done n with ⟨h1, _⟩ | ⟨t, h1, h2, _⟩ <;> omega

/-- All are done as soon as six are. -/
theorem all_done {done : Nat → Bool} (h : (List.range 6).countP done = 6) (n : Nat) (hn : n < 6) : done n = true := by
  have h' : (List.range 6).countP done = (List.range 6).length := by simpa using h
  rw [List.countP_eq_length] at h'
  exact h' n (by simpa using hn)

theorem count_next {done done' : Nat → Bool} {t : Nat} (ht : t < 6) (htd : done t = false) (hd' : ∀ n, n < 6 → done' n = (done n || decide (n = t))) :
    (List.range 6).countP done < (List.range 6).countP done' := by
  refine countP_lt_of _ ?_ ⟨t, by simpa using ht, htd, by rw [hd' t ht]; simp⟩
  intro x hx h
  rw [hd' x (by simpa using hx), h]; rfl

theorem exists_sol (hC : CostOK C) (s : Int) : ∃ d, Sol C s d := by
  have key : ∀ (m : Nat) (o : Nat → Int) (done : Nat → Bool), Dij C s o done → 6 - (List.range 6).countP done = m → ∃ d, Sol C s d := by
    intro m
    induction m using Nat.strongRecOn with
    | _ m ih =>
      intro o done h hm
      rcases nearest_spec o done 6 with ⟨_, h2⟩ | ⟨t, _, h2, h3, h4, h5⟩
      · exact ⟨o, h.sol h2⟩
      · have h6 := h.next (o' := fun b => if 0 < C t b then min (o b) (o t + C t b) else o b) (done' := fun n => done n || decide (n = t)) hC h2 h3 h4 h5 (fun _ _ => rfl) (fun _ _ => rfl)
        have h7 := count_next (done := done) (done' := fun n => done n || decide (n = t)) h2 h3 (fun _ _ => rfl)
        have h8 : (List.range 6).countP (fun n => done n || decide (n = t)) ≤ 6 := by
          have := List.countP_le_length (p := fun n => done n || decide (n = t)) (l := List.range 6)
          simpa using this
        exact ih _ (by omega) _ _ h6 rfl
  exact key _ _ _ (Dij.start C s) rfl

theorem far_sol (hC : CostOK C) (s : Int) : Sol C s (far C s) := by
  obtain ⟨d, hd⟩ := exists_sol hC s
  exact hd.congr (fun _ _ _ _ => rfl) (fun v hv => (far_eq hd hC.lo v hv).symm)

end
end Go.Proofs.YteedndapbfihaaaGreat.Lk
/- Walks over package links: Node, New, Cost, Set; over handpostref: IsNode, Map.Set. -/
namespace Go.Proofs.YteedndapbfihaaaGreat
open Go.RowKit Go.Deep

set_option maxHeartbeats 400000 in
theorem Node_yes (n : Int) (w : World) (h0 : 0 ≤ n) (h1 : n < 6) :
    Calls Tryz.prog 43 #[.int .i64 n] w fun e w' => e = .returned (.bool true) ∧ w = w' := by
  go_enter Tryz.func43, Tryz.ntmps43
  go_wp2
  go_ret
  exact ⟨rfl, rfl⟩
set_option maxHeartbeats 400000 in
theorem Node_no (n : Int) (w : World) (h : ¬ (0 ≤ n ∧ n < 6)) :
    Calls Tryz.prog 43 #[.int .i64 n] w fun e w' => e = .returned (.bool false) ∧ w = w' := by
  by_cases h0 : 0 ≤ n
  · have h1 : ¬ n < 6 := by omega
    clear h
    go_enter Tryz.func43, Tryz.ntmps43
    go_wp2
    go_ret
    exact ⟨rfl, rfl⟩
  · clear h
    go_enter Tryz.func43, Tryz.ntmps43
    go_wp2
    go_ret
    exact ⟨rfl, rfl⟩
def isNode (n : Int) : Bool := decide (0 ≤ n ∧ n < 6)
theorem Node_any (n : Int) (w : World) :
    Calls Tryz.prog 43 #[.int .i64 n] w fun e w' => e = .returned (.bool (isNode n)) ∧ w = w' := by
  by_cases h : 0 ≤ n ∧ n < 6
  · refine (Node_yes n w h.1 h.2).mono ?_
    rintro e w' ⟨rfl, rfl⟩
    exact ⟨by simp [isNode, h], rfl⟩
  · refine (Node_no n w h).mono ?_
    rintro e w' ⟨rfl, rfl⟩
    exact ⟨by simp only [isNode, h, decide_false], rfl⟩
set_option maxHeartbeats 400000 in
theorem RNode_yes (n : Int) (w : World) (h0 : 0 ≤ n) (h1 : n < 6) :
    Calls Tryz.prog 20 #[.int .i64 n] w fun e w' => e = .returned (.bool true) ∧ w = w' := by
  go_enter Tryz.func20, Tryz.ntmps20
  go_wp2
  go_ret
  exact ⟨rfl, rfl⟩
set_option maxHeartbeats 400000 in
theorem RNode_no (n : Int) (w : World) (h : ¬ (0 ≤ n ∧ n < 6)) :
    Calls Tryz.prog 20 #[.int .i64 n] w fun e w' => e = .returned (.bool false) ∧ w = w' := by
  by_cases h0 : 0 ≤ n
  · have h1 : ¬ n < 6 := by omega
    clear h
    go_enter Tryz.func20, Tryz.ntmps20
    go_wp2
    go_ret
    exact ⟨rfl, rfl⟩
  · clear h
    go_enter Tryz.func20, Tryz.ntmps20
    go_wp2
    go_ret
    exact ⟨rfl, rfl⟩
theorem RNode_any (n : Int) (w : World) :
    Calls Tryz.prog 20 #[.int .i64 n] w fun e w' => e = .returned (.bool (isNode n)) ∧ w = w' := by
  by_cases h : 0 ≤ n ∧ n < 6
  · refine (RNode_yes n w h.1 h.2).mono ?_
    rintro e w' ⟨rfl, rfl⟩
    exact ⟨by simp [isNode, h], rfl⟩
  · refine (RNode_no n w h).mono ?_
    rintro e w' ⟨rfl, rfl⟩
    exact ⟨by simp only [isNode, h, decide_false], rfl⟩
/-- What links cost, in a block of 36 cells. -/
def CAt (w : World) (b : Nat) (t : TypeId) (C : Nat → Nat → Int) : Prop := w.rowIs b t 36 (fun i => .int .i64 (C (i / 6) (i % 6)))
theorem CAt.cell {w : World} {b : Nat} {t : TypeId} {C : Nat → Nat → Int} (h : CAt w b t C) {x y : Nat} (hx : x < 6) (hy : y < 6) : w.cell? ⟨b, x * 6 + y, none⟩ = some (.int .i64 (C x y)) := by
  have := World.rowIs.cell h (i := x * 6 + y) (by omega)
  rw [show (x * 6 + y) / 6 = x from by omega, show (x * 6 + y) % 6 = y from by omega] at this
  exact this
def updC (C : Nat → Nat → Int) (a b : Nat) (v : Int) : Nat → Nat → Int := fun x y => if x = a ∧ y = b then v else C x y
theorem CAt.set {w : World} {b : Nat} {t : TypeId} {C : Nat → Nat → Int} (h : CAt w b t C) {x y : Nat} (hy : y < 6) (v : Int) : CAt (w.setCell ⟨b, x * 6 + y, none⟩ (.int .i64 v)) b t (updC C x y v) := by
  refine (World.rowIs.set h (x * 6 + y) (.int .i64 v)).congr ?_
  intro i hi
  unfold updC
  by_cases e : i = x * 6 + y
  · subst e
    rw [if_pos rfl, if_pos ⟨by omega, by omega⟩]
  · rw [if_neg e, if_neg (by omega)]
set_option maxHeartbeats 400000 in
theorem Cost_yes (b : Nat) (x y : Nat) (C : Nat → Nat → Int) (w : World) (hx : x < 6) (hy : y < 6) (hC : CAt w b 108 C) :
    Calls Tryz.prog 37 #[.pointer (some ⟨b, 0, none⟩), .int .i64 x, .int .i64 y] w fun e w' => e = .returned (.int .i64 (C x y)) ∧ w = w' := by
  have hc := hC.cell hx hy
  clear hC
  go_enter Tryz.func37, Tryz.ntmps37
  go_wp2_with (first | (go_at_call 43; refine (Node_yes _ _ (by omega) (by omega)).mono ?_; rintro e w' ⟨rfl, rfl⟩))
  go_ret
  exact ⟨rfl, rfl⟩
set_option maxHeartbeats 400000 in
theorem Cost_no (b : Nat) (x y : Int) (w : World) (h : ¬ (0 ≤ x ∧ x < 6 ∧ 0 ≤ y ∧ y < 6)) :
    Calls Tryz.prog 37 #[.pointer (some ⟨b, 0, none⟩), .int .i64 x, .int .i64 y] w fun e w' => e = .returned (.int .i64 0) ∧ w = w' := by
  by_cases hx : 0 ≤ x ∧ x < 6
  · have hy : ¬ (0 ≤ y ∧ y < 6) := by omega
    obtain ⟨hx0, hx1⟩ := hx
    have HY := Lib.hid hy; clear hy h
    go_enter Tryz.func37, Tryz.ntmps37
    go_wp2_with fail
    refine (Node_yes _ _ hx0 hx1).mono ?_; rintro e w' ⟨rfl, rfl⟩
    go_wp2_with fail
    refine (Node_no _ _ HY.out).mono ?_; rintro e w' ⟨rfl, rfl⟩
    go_wp2
    go_ret
    exact ⟨rfl, rfl⟩
  · have HX := Lib.hid hx; clear hx h
    go_enter Tryz.func37, Tryz.ntmps37
    go_wp2_with fail
    refine (Node_no _ _ HX.out).mono ?_; rintro e w' ⟨rfl, rfl⟩
    go_wp2
    go_ret
    exact ⟨rfl, rfl⟩
/-- Both ways of a link. -/
def setC (C : Nat → Nat → Int) (a b : Nat) (v : Int) : Nat → Nat → Int := updC (updC C a b v) b a v
def SetPost (b : Nat) (t : TypeId) (C : Nat → Nat → Int) (w : World) (e : Ending) (w' : World) : Prop := e = .returned (.int .i64 0) ∧ CAt w' b t C ∧ Fr (OneB b) w w'
set_option maxHeartbeats 400000 in
theorem Set_ok (b x y : Nat) (v : Int) (C : Nat → Nat → Int) (w : World) (hx : x < 6) (hy : y < 6) (hxy : x ≠ y) (h0 : 0 ≤ v) (h1 : v ≤ 15) (hC : CAt w b 108 C) :
    Calls Tryz.prog 106 #[.pointer (some ⟨b, 0, none⟩), .int .i64 x, .int .i64 y, .int .i64 v] w (SetPost b 108 (setC C x y v) w) := by
  have c1 := hC.cell hx hy
  have c2 := hC.cell hy hx
  have f1 := World.rowIs.frozen hC (x * 6 + y)
  have f2 := World.rowIs.frozen hC (y * 6 + x)
  have HC := Lib.hid hC; clear hC
  have hb : ((x : Int) == (y : Int)) = false := by simp; omega
  go_enter Tryz.func106, Tryz.ntmps106
  go_wp2_with (first | (go_at_call 43; refine (Node_yes _ _ (by omega) (by omega)).mono ?_; rintro e w' ⟨rfl, rfl⟩))
  go_region
  go_wp2
  go_ret
  exact ⟨rfl, World.rowIs.drew ((HC.out.set hy v).set hx v), (((Fr.refl _ _).set1 _ _).set1 _ _).drew⟩
set_option maxHeartbeats 1000000 in
theorem Set_no (b : Nat) (x y v : Int) (w : World) (h : ¬ (0 ≤ x ∧ x < 6 ∧ 0 ≤ y ∧ y < 6 ∧ x ≠ y ∧ 0 ≤ v ∧ v ≤ 15)) :
    Calls Tryz.prog 106 #[.pointer (some ⟨b, 0, none⟩), .int .i64 x, .int .i64 y, .int .i64 v] w fun e w' => e = .returned (.int .i64 1) ∧ w = w' := by
  by_cases hx : 0 ≤ x ∧ x < 6
  · obtain ⟨hx0, hx1⟩ := hx
    by_cases hy : 0 ≤ y ∧ y < 6
    · obtain ⟨hy0, hy1⟩ := hy
      by_cases hxy : x = y
      · subst hxy
        clear h
        go_enter Tryz.func106, Tryz.ntmps106
        go_wp2_with (first | (go_at_call 43; refine (Node_yes _ _ (by omega) (by omega)).mono ?_; rintro e w' ⟨rfl, rfl⟩))
        go_ret
        exact ⟨rfl, rfl⟩
      · have hb : (x == y) = false := by simp; omega
        by_cases hv : v < 0
        · clear h hxy
          go_enter Tryz.func106, Tryz.ntmps106
          go_wp2_with (first | (go_at_call 43; refine (Node_yes _ _ (by omega) (by omega)).mono ?_; rintro e w' ⟨rfl, rfl⟩))
          go_ret
          exact ⟨rfl, rfl⟩
        · have hv1 : 15 < v := by omega
          have hv0 : 0 ≤ v := by omega
          clear h hxy hv
          go_enter Tryz.func106, Tryz.ntmps106
          go_wp2_with (first | (go_at_call 43; refine (Node_yes _ _ (by omega) (by omega)).mono ?_; rintro e w' ⟨rfl, rfl⟩))
          go_ret
          exact ⟨rfl, rfl⟩
    · have HY := Lib.hid hy; clear hy h
      go_enter Tryz.func106, Tryz.ntmps106
      go_wp2_with fail
      refine (Node_yes _ _ hx0 hx1).mono ?_; rintro e w' ⟨rfl, rfl⟩
      go_wp2_with fail
      refine (Node_no _ _ HY.out).mono ?_; rintro e w' ⟨rfl, rfl⟩
      go_wp2
      go_ret
      exact ⟨rfl, rfl⟩
  · have HX := Lib.hid hx; clear hx h
    go_enter Tryz.func106, Tryz.ntmps106
    go_wp2_with fail
    refine (Node_no _ _ HX.out).mono ?_; rintro e w' ⟨rfl, rfl⟩
    go_wp2
    go_ret
    exact ⟨rfl, rfl⟩
def NewLPost (w : World) (e : Ending) (w' : World) : Prop := e = .returned (.pointer (some ⟨w.heap.size, 0, none⟩)) ∧ CAt w' w.heap.size 108 (fun _ _ => 0) ∧ Fr NoB w w'
set_option maxHeartbeats 400000 in
theorem NewL (w : World) : Calls Tryz.prog 94 #[] w (NewLPost w) := by
  go_enter Tryz.func94, Tryz.ntmps94
  go_wp2
  go_ret
  exact ⟨rfl, rowIs_new w 36 (.int .i64 0) 108, (Fr.refl _ _).alloc _⟩
end Go.Proofs.YteedndapbfihaaaGreat
/- A slice of integers: what append asks of the type. -/
namespace Go.Proofs.YteedndapbfihaaaGreat
open Go.RowKit Go.Deep

theorem Tryz.info3 : (Tryz.prog.info? 3).map (fun i => (i.zero, i.size, i.bytes)) = some (some (.int .i64 0), 1, 8) := by kernel_rfl
end Go.Proofs.YteedndapbfihaaaGreat
/- Walks over package links: Of. -/
namespace Go.Proofs.YteedndapbfihaaaGreat
open Go.RowKit Go.Deep

def ofL (C : Nat → Nat → Int) (a : Nat) (k : Nat) : List Nat := (List.range k).filter (fun b => decide (0 < C a b))
theorem ofL_hit (C : Nat → Nat → Int) (a k : Nat) (h : 0 < C a k) : ofL C a (k + 1) = ofL C a k ++ [k] := by simp [ofL, List.range_succ, h]
theorem ofL_miss (C : Nat → Nat → Int) (a k : Nat) (h : ¬ 0 < C a k) : ofL C a (k + 1) = ofL C a k := by simp [ofL, List.range_succ, h]
theorem ofL_le (C : Nat → Nat → Int) (a k : Nat) : (ofL C a k).length ≤ k := by
  have := List.length_filter_le (fun b => decide (0 < C a b)) (List.range k)
  simpa [ofL] using this
def ints (l : List Nat) : List Int := l.map (fun (n : Nat) => (n : Int))
def OfPost (C : Nat → Nat → Int) (a : Nat) (w : World) (e : Ending) (w' : World) : Prop := ∃ v, e = .returned v ∧ Sl w' w.heap.size v (ints (ofL C a 6)) ∧ Fr NoB w w'
set_option maxHeartbeats 1000000 in
theorem Of_yes (b a : Nat) (C : Nat → Nat → Int) (w : World) (ha : a < 6) (hC : CAt w b 108 C) :
    Calls Tryz.prog 62 #[.pointer (some ⟨b, 0, none⟩), .int .i64 a] w (OfPost C a w) := by
  have HC := Lib.hid hC; clear hC
  go_enter Tryz.func62, Tryz.ntmps62
  go_wp2
  go_loopw [5, 7] (fun v i wr => ∃ k : Nat, k ≤ 6 ∧ i = .int .i64 k ∧ Sl wr w.heap.size v (ints (ofL C a k)) ∧ Fr NoB w wr) (fun _ i _ => 6 - (intOf i).toNat)
  case atStart => exact ⟨0, by omega, rfl, Sl.nil _ _, Fr.refl _ _⟩
  case round =>
    obtain ⟨k, hk, rfl, hown, hfr⟩ := hrel
    have HO := Lib.hid hown; clear hown
    have HF := Lib.hid hfr; clear hfr
    by_cases hk6 : k < 6
    · by_cases hp : 0 < C a k
      · go_wp2_with fail
        refine (Cost_yes _ _ _ C _ ha hk6 (HF.out.row HC.out (fun h => h))).mono ?_; rintro e w' ⟨rfl, rfl⟩
        go_wp2_with (at_builtin; go_loud (refine app_int rfl (.tmp 15) (.tmp 17) 64 rfl Tryz.underlying64 Tryz.info3 w.heap.size u5 (ints (ofL C a k)) rfl (HO.out.alloc _) ⟨wr.heap.size, 0, none⟩ k rfl (by simp) ?h1 ?h2 ?_))
        case h1 => have := ofL_le C a k; simp [ints]; omega
        case h2 => have := HF.out.size; simp; omega
        · intro v' w1 h1 h2
          have H1 := Lib.hid h1; clear h1
          have H2 := Lib.hid h2; clear h2
          go_wp2
          go_roundw
          case rel => exact ⟨k + 1, by omega, by go_num, by rw [ofL_hit C a k hp]; simpa [ints] using H1.out, (HF.out.alloc _).own H2.out⟩
          case measure => simp [intOf]; omega
      · go_wp2_with fail
        refine (Cost_yes _ _ _ C _ ha hk6 (HF.out.row HC.out (fun h => h))).mono ?_; rintro e w' ⟨rfl, rfl⟩
        go_wp2
        go_roundw
        case rel => exact ⟨k + 1, by omega, by go_num, by rw [ofL_miss C a k (by omega)]; exact HO.out, HF.out⟩
        case measure => simp [intOf]; omega
    · obtain rfl : k = 6 := by omega
      go_wp2
      go_ret
      exact ⟨_, rfl, HO.out, HF.out⟩
end Go.Proofs.YteedndapbfihaaaGreat
/- Walks: handpostref Map.Far. -/
namespace Go.Proofs.YteedndapbfihaaaGreat
open Go.RowKit Go.Deep

theorem mk6 (w : World) : (Instr.makeSlice 64 (.int .i64 6) (.int .i64 6)).run Tryz.prog w = .ok (.slice (some ⟨w.heap.size, 0, none⟩) 6 6) (w.alloc (.cells (Array.replicate 6 (.int .i64 0)) 3)) := by kernel_rfl
theorem CAt.drewN {w : World} {b : Nat} {t : TypeId} {C : Nat → Nat → Int} (h : CAt w b t C) (n : Nat) : CAt (w.drewN n) b t C := h
def FarPost (f : Nat → Int) (w : World) (e : Ending) (w' : World) : Prop := ∃ g, e = .returned (.slice (some ⟨g, 0, none⟩) 6 6) ∧ w.heap.size ≤ g ∧ w'.rowIs g 3 6 (I f) ∧ Fr NoB w w'
end Go.Proofs.YteedndapbfihaaaGreat
