/- Plain mathematics of least distances on six nodes: what solves the equations of least distances is one alone; a Dijkstra step keeps what it needs; repeated relaxation comes to the same. No program in sight. -/
namespace Go.Proofs.Ytdpgbgapelgomaa.Lk

def upd (f : Nat → Int) (i : Nat) (v : Int) : Nat → Int := fun j => if j = i then v else f j
theorem upd_same (f : Nat → Int) (i : Nat) (v : Int) : upd f i v i = v := by simp [upd]
theorem upd_other (f : Nat → Int) (i j : Nat) (v : Int) (h : j ≠ i) : upd f i v j = f j := by simp [upd, h]

/-- Costs of links of six nodes. -/
structure CostOK (C : Nat → Nat → Int) : Prop where
  lo : ∀ a b, a < 6 → b < 6 → 0 ≤ C a b
  hi : ∀ a b, a < 6 → b < 6 → C a b ≤ 15
  sym : ∀ a b, a < 6 → b < 6 → C a b = C b a
  self : ∀ a, a < 6 → C a a = 0

/-- The equations of least distances from 's' (which need be no node). -/
structure Sol (C : Nat → Nat → Int) (s : Int) (d : Nat → Int) : Prop where
  lo : ∀ v, v < 6 → 0 ≤ d v
  hi : ∀ v, v < 6 → d v ≤ 200
  src : ∀ v : Nat, v < 6 → (v : Int) = s → d v = 0
  step : ∀ a b, a < 6 → b < 6 → 0 < C a b → d b ≤ d a + C a b
  pred : ∀ v, v < 6 → d v < 200 → (v : Int) = s ∨ ∃ a, a < 6 ∧ 0 < C a v ∧ d v = d a + C a v

theorem Sol.le {C : Nat → Nat → Int} {s : Int} {d e : Nat → Int} (hd : Sol C s d) (he : Sol C s e) : ∀ v, v < 6 → d v ≤ e v := by
  have key : ∀ n : Nat, ∀ v, v < 6 → (e v).toNat = n → d v ≤ e v := by
    intro n
    induction n using Nat.strongRecOn with
    | _ n ih =>
      intro v hv hn
      by_cases h : e v < 200
      · rcases he.pred v hv h with h0 | ⟨a, ha, hc, hs⟩
        · have := hd.src v hv h0; have := he.lo v hv; omega
        · have h1 := he.lo a ha
          have h2 := he.lo v hv
          have := ih (e a).toNat (by omega) a ha rfl
          have := hd.step a v ha hv hc
          omega
      · have := hd.hi v hv; omega
  exact fun v hv => key _ v hv rfl

/-- One solution alone. -/
theorem Sol.uniq {C : Nat → Nat → Int} {s : Int} {d e : Nat → Int} (hd : Sol C s d) (he : Sol C s e) (v : Nat) (hv : v < 6) : d v = e v := by
  have := hd.le he v hv
  have := he.le hd v hv
  omega

theorem Sol.congr {C C' : Nat → Nat → Int} {s : Int} {d e : Nat → Int} (hd : Sol C s d) (hC : ∀ a b, a < 6 → b < 6 → C a b = C' a b) (he : ∀ v, v < 6 → d v = e v) : Sol C' s e where
  lo v hv := by rw [← he v hv]; exact hd.lo v hv
  hi v hv := by rw [← he v hv]; exact hd.hi v hv
  src v hv h := by rw [← he v hv]; exact hd.src v hv h
  step a b ha hb h := by rw [← he a ha, ← he b hb, ← hC a b ha hb]; exact hd.step a b ha hb (by rw [hC a b ha hb]; exact h)
  pred v hv h := by
    rw [← he v hv] at h
    rcases hd.pred v hv h with h0 | ⟨a, ha, hc, hs⟩
    · exact .inl h0
    · exact .inr ⟨a, ha, by rw [← hC a v ha hv]; exact hc, by rw [← he v hv, ← he a ha, ← hC a v ha hv]; exact hs⟩

/- How many nodes are nearer. -/
def rank (d : Nat → Int) (v : Nat) : Nat := (List.range 6).countP (fun u => decide (d u < d v))

theorem countP_le_of {p q : Nat → Bool} (l : List Nat) (h : ∀ x ∈ l, p x = true → q x = true) : l.countP p ≤ l.countP q := by
  exact List.countP_mono_left h

theorem countP_lt_of {p q : Nat → Bool} : ∀ (l : List Nat), (∀ x ∈ l, p x = true → q x = true) → (∃ x ∈ l, p x = false ∧ q x = true) → l.countP p < l.countP q
  | [], _, ⟨x, hx, _⟩ => by simp at hx
  | y :: l, h, ⟨x, hx, hp, hq⟩ => by
    have hl : ∀ x ∈ l, p x = true → q x = true := fun x hx => h x (List.mem_cons_of_mem _ hx)
    have hle := countP_le_of l hl
    simp only [List.countP_cons]
    rcases List.mem_cons.1 hx with rfl | hx'
    · simp [hp, hq]; omega
    · have := countP_lt_of l hl ⟨x, hx', hp, hq⟩
      have hy := h y (List.mem_cons_self ..)
      cases hpy : p y
      · simp; omega
      · simp [hy hpy]; omega

theorem rank_lt {d : Nat → Int} {a v : Nat} (ha : a < 6) (h : d a < d v) : rank d a < rank d v := by
  refine countP_lt_of _ ?_ ⟨a, by simpa using ha, by simp, by simpa using h⟩
  intro x _ hx
  simp only [decide_eq_true_eq] at hx ⊢
  omega

theorem rank_le (d : Nat → Int) (v : Nat) (hv : v < 6) : rank d v < 6 := by
  have h : rank d v < (List.range 6).countP (fun _ => true) := countP_lt_of _ (by simp) ⟨v, by simpa using hv, by simp, rfl⟩
  simpa using h

/-- A walk along the ways back to the source: whatever holds of the source, and goes from the one ahead to the next, holds of all that have a way. -/
theorem Sol.ind {C : Nat → Nat → Int} {s : Int} {d : Nat → Int} (hd : Sol C s d) (p : Nat → Prop) (h0 : ∀ v : Nat, v < 6 → (v : Int) = s → p v)
    (h1 : ∀ a v, a < 6 → v < 6 → 0 < C a v → d a < 200 → d v < 200 → d v = d a + C a v → p a → p v) : ∀ v, v < 6 → d v < 200 → p v := by
  have key : ∀ n : Nat, ∀ v, v < 6 → (d v).toNat = n → d v < 200 → p v := by
    intro n
    induction n using Nat.strongRecOn with
    | _ n ih =>
      intro v hv hn h
      rcases hd.pred v hv h with hs | ⟨a, ha, hc, hs⟩
      · exact h0 v hv hs
      · have h2 := hd.lo a ha
        have h3 := hd.lo v hv
        exact h1 a v ha hv hc (by omega) h hs (ih (d a).toNat (by omega) a ha rfl (by omega))
  exact fun v hv h => key _ v hv rfl h

/-- No farther than by a node between. -/
theorem tri {C : Nat → Nat → Int} {s t : Nat} {d e : Nat → Int} (ht : t < 6) (hd : Sol C s d) (he : Sol C t e) (v : Nat) (hv : v < 6) (h : d t + e v < 200) : d v ≤ d t + e v := by
  have hlo := hd.lo t ht
  refine he.ind (fun v => d v ≤ d t + e v) ?_ ?_ v hv (by omega)
  · intro v hv hs
    have : v = t := by omega
    subst this
    have := he.src v hv rfl
    omega
  · intro a v ha hv hc _ _ hs hp
    have := hd.step a v ha hv hc
    omega

/-- As far as back, one half. -/
theorem back_le {C : Nat → Nat → Int} (hC : CostOK C) {f : Nat → Nat → Int} (hf : ∀ s : Nat, s < 6 → Sol C s (f s)) (a b : Nat) (ha : a < 6) (hb : b < 6) : f b a ≤ f a b := by
  by_cases h : f a b < 200
  · refine (hf a ha).ind (fun v => f v a ≤ f a v) ?_ ?_ b hb h
    · intro v hv hs
      have : v = a := by omega
      subst this
      exact Int.le_refl _
    · intro u v hu hv hc _ h2 hs hp
      have hc' : 0 < C v u := by rw [hC.sym v u hv hu]; exact hc
      have h1 : f v u ≤ C v u := by
        have := (hf v hv).step v u hv hu hc'
        have := (hf v hv).src v hv rfl
        omega
      have h3 := hC.sym v u hv hu
      have := tri hu (hf v hv) (hf u hu) a ha (by omega)
      omega
  · have := (hf b hb).hi a ha
    omega

theorem back {C : Nat → Nat → Int} (hC : CostOK C) {f : Nat → Nat → Int} (hf : ∀ s : Nat, s < 6 → Sol C s (f s)) (a b : Nat) (ha : a < 6) (hb : b < 6) : f a b = f b a := by
  have := back_le hC hf a b ha hb
  have := back_le hC hf b a hb ha
  omega

/-- By no link longer. -/
theorem link_le {C : Nat → Nat → Int} {s : Nat} {d : Nat → Int} (hs : s < 6) (hd : Sol C s d) (v : Nat) (hv : v < 6) (h : 0 < C s v) : d v ≤ C s v := by
  have := hd.step s v hs hv h
  have := hd.src s hs rfl
  omega

/-- Some link leads on the least way. -/
theorem lead {C : Nat → Nat → Int} (hC : CostOK C) {f : Nat → Nat → Int} (hf : ∀ s : Nat, s < 6 → Sol C s (f s)) (a b : Nat) (ha : a < 6) (hb : b < 6) (hab : a ≠ b) (h : f a b < 200) :
    ∃ u, u < 6 ∧ 0 < C a u ∧ C a u + f u b = f a b := by
  have h' : f b a < 200 := by rw [← back hC hf a b ha hb]; exact h
  rcases (hf b hb).pred a ha h' with h0 | ⟨u, hu, hc, hs⟩
  · omega
  · refine ⟨u, hu, by rw [hC.sym a u ha hu]; exact hc, ?_⟩
    rw [hC.sym a u ha hu, back hC hf u b hu hb, back hC hf a b ha hb]
    omega

/- Repeated relaxation. -/
def relax (C : Nat → Nat → Int) (o : Nat → Int) (a b : Nat) : Nat → Int := if 0 < C a b ∧ o a < 200 ∧ o a + C a b < o b then upd o b (o a + C a b) else o
def bfB (C : Nat → Nat → Int) (a : Nat) (o : Nat → Int) : Nat → (Nat → Int)
  | 0 => o
  | j + 1 => relax C (bfB C a o j) a j
def bfA (C : Nat → Nat → Int) (o : Nat → Int) : Nat → (Nat → Int)
  | 0 => o
  | i + 1 => bfB C i (bfA C o i) 6
def bfK (C : Nat → Nat → Int) (o : Nat → Int) : Nat → (Nat → Int)
  | 0 => o
  | k + 1 => bfA C (bfK C o k) 6
def start (s : Int) : Nat → Int := fun n => if (n : Int) = s then 0 else 200
def far (C : Nat → Nat → Int) (s : Int) : Nat → Int := bfK C (start s) 6

section
variable {C : Nat → Nat → Int} {s : Int} {d : Nat → Int}

/-- What relaxation keeps: nobody below the solution, nobody above 200, nobody raised. -/
def Over (d o : Nat → Int) : Prop := ∀ v, v < 6 → d v ≤ o v ∧ o v ≤ 200

theorem relax_over (hd : Sol C s d) {o : Nat → Int} (h : Over d o) {a b : Nat} (ha : a < 6) (hb : b < 6) : Over d (relax C o a b) := by
  intro v hv
  unfold relax
  split
  · rename_i hc
    by_cases e : v = b
    · subst e
      rw [upd_same]
      have := hd.step a v ha hv hc.1
      have := h a ha
      have := h v hv
      omega
    · rw [upd_other _ _ _ _ e]; exact h v hv
  · exact h v hv

theorem relax_le (o : Nat → Int) (a b v : Nat) : relax C o a b v ≤ o v := by
  unfold relax
  split
  · rename_i hc
    by_cases e : v = b
    · subst e; rw [upd_same]; omega
    · rw [upd_other _ _ _ _ e]; exact Int.le_refl _
  · exact Int.le_refl _

theorem relax_hit (o : Nat → Int) (a b : Nat) (hc : 0 < C a b) (ha : o a < 200) : relax C o a b b ≤ o a + C a b := by
  unfold relax
  split
  · rw [upd_same]; exact Int.le_refl _
  · omega

theorem bfB_over (hd : Sol C s d) {o : Nat → Int} (h : Over d o) {a : Nat} (ha : a < 6) : ∀ j, j ≤ 6 → Over d (bfB C a o j)
  | 0, _ => h
  | j + 1, hj => relax_over hd (bfB_over hd h ha j (by omega)) ha (by omega)
theorem bfA_over (hd : Sol C s d) {o : Nat → Int} (h : Over d o) : ∀ i, i ≤ 6 → Over d (bfA C o i)
  | 0, _ => h
  | i + 1, hi => bfB_over hd (bfA_over hd h i (by omega)) (by omega) 6 (by omega)
theorem bfK_over (hd : Sol C s d) {o : Nat → Int} (h : Over d o) : ∀ k, Over d (bfK C o k)
  | 0 => h
  | k + 1 => bfA_over hd (bfK_over hd h k) 6 (by omega)
theorem bfB_le (o : Nat → Int) (a v : Nat) : ∀ j, bfB C a o j v ≤ o v
  | 0 => Int.le_refl _
  | j + 1 => Int.le_trans (relax_le _ _ _ _) (bfB_le o a v j)
theorem bfA_le (o : Nat → Int) (v : Nat) : ∀ i, bfA C o i v ≤ o v
  | 0 => Int.le_refl _
  | i + 1 => Int.le_trans (bfB_le _ _ _ _) (bfA_le o v i)

/-- A node that is final stays final. -/
theorem over_keep {o o' : Nat → Int} (ho : Over d o') (hle : ∀ v, o' v ≤ o v) {v : Nat} (hv : v < 6) (h : o v = d v) : o' v = d v := by
  have := ho v hv; have := hle v; omega

theorem bfB_final (hd : Sol C s d) {o : Nat → Int} (h : Over d o) {a v : Nat} (ha : a < 6) (hv : v < 6) (hc : 0 < C a v) (hs : d v = d a + C a v) (hv2 : d v < 200) (hfin : o a = d a) :
    ∀ j, v < j → j ≤ 6 → bfB C a o j v = d v
  | 0, hj, _ => by omega
  | j + 1, hj, hj6 => by
    have hov := bfB_over hd h ha j (by omega)
    have hov' := bfB_over hd h ha (j + 1) hj6
    by_cases e : v = j
    · subst e
      have h1 : bfB C a o v a = d a := over_keep hov (fun u => bfB_le o a u v) ha hfin
      have h2 : bfB C a o (v + 1) v ≤ bfB C a o v a + C a v := relax_hit _ _ _ hc (by omega)
      have := hov' v hv
      omega
    · have h1 := bfB_final hd h ha hv hc hs hv2 hfin j (by omega) (by omega)
      exact over_keep hov' (fun u => relax_le _ _ _ _) hv h1

theorem bfA_final (hd : Sol C s d) {o : Nat → Int} (h : Over d o) {a v : Nat} (ha : a < 6) (hv : v < 6) (hc : 0 < C a v) (hs : d v = d a + C a v) (hv2 : d v < 200) (hfin : o a = d a) :
    ∀ i, a < i → i ≤ 6 → bfA C o i v = d v
  | 0, hi, _ => by omega
  | i + 1, hi, hi6 => by
    have hov := bfA_over hd h i (by omega)
    have hov' := bfA_over hd h (i + 1) hi6
    by_cases e : a = i
    · subst e
      have h1 : bfA C o a a = d a := over_keep hov (fun u => bfA_le o u a) ha hfin
      exact bfB_final hd hov ha hv hc hs hv2 h1 6 hv (by omega)
    · have h1 := bfA_final hd h ha hv hc hs hv2 hfin i (by omega) (by omega)
      exact over_keep hov' (fun u => bfB_le _ _ _ _) hv h1

theorem bfK_final (hd : Sol C s d) (hpos : ∀ a b, a < 6 → b < 6 → 0 ≤ C a b) : ∀ k v, v < 6 → d v < 200 → rank d v < k → bfK C (start s) k v = d v
  | 0, _, _, _, h => by omega
  | k + 1, v, hv, h2, hr => by
    have hst : Over d (start s) := by
      intro u hu
      unfold start
      split
      · rename_i e; have := hd.src u hu e; omega
      · exact ⟨hd.hi u hu, Int.le_refl _⟩
    have hov := bfK_over hd hst k
    have hov' := bfK_over hd hst (k + 1)
    have hle : ∀ m u, bfK C (start s) m u ≤ start s u := by
      intro m
      induction m with
      | zero => exact fun _ => Int.le_refl _
      | succ m ih => exact fun u => Int.le_trans (bfA_le _ _ _) (ih u)
    rcases hd.pred v hv h2 with h0 | ⟨a, ha, hc, hs⟩
    · refine over_keep hov' (hle _) hv ?_
      rw [hd.src v hv h0]
      simp [start, h0]
    · have hr' : rank d a < rank d v := rank_lt ha (by omega)
      exact bfA_final hd hov ha hv hc hs h2 (bfK_final hd hpos k a ha (by omega) (by omega)) 6 ha (by omega)

/-- Relaxation six times comes to the solution, if there is one. -/
theorem far_eq (hd : Sol C s d) (hpos : ∀ a b, a < 6 → b < 6 → 0 ≤ C a b) (v : Nat) (hv : v < 6) : far C s v = d v := by
  have hst : Over d (start s) := by
    intro u hu
    unfold start
    split
    · rename_i e; have := hd.src u hu e; omega
    · exact ⟨hd.hi u hu, Int.le_refl _⟩
  have hov := bfK_over hd hst 6 v hv
  by_cases h : d v < 200
  · exact bfK_final hd hpos 6 v hv h (rank_le d v hv)
  · unfold far; omega

/-- Between 0 and 200. -/
def Bd (o : Nat → Int) : Prop := ∀ v, v < 6 → 0 ≤ o v ∧ o v ≤ 200
theorem start_bd (s : Int) : Bd (start s) := by intro v _; unfold start; split <;> omega
theorem relax_bd (hpos : ∀ a b, a < 6 → b < 6 → 0 ≤ C a b) {o : Nat → Int} (h : Bd o) {a b : Nat} (ha : a < 6) (hb : b < 6) : Bd (relax C o a b) := by
  intro v hv
  unfold relax
  split
  · by_cases e : v = b
    · subst e
      rw [upd_same]
      have := h a ha; have := h v hv; have := hpos a v ha hv
      omega
    · rw [upd_other _ _ _ _ e]; exact h v hv
  · exact h v hv
theorem bfB_bd (hpos : ∀ a b, a < 6 → b < 6 → 0 ≤ C a b) {o : Nat → Int} (h : Bd o) {a : Nat} (ha : a < 6) : ∀ j, j ≤ 6 → Bd (bfB C a o j)
  | 0, _ => h
  | j + 1, hj => relax_bd hpos (bfB_bd hpos h ha j (by omega)) ha (by omega)
theorem bfA_bd (hpos : ∀ a b, a < 6 → b < 6 → 0 ≤ C a b) {o : Nat → Int} (h : Bd o) : ∀ i, i ≤ 6 → Bd (bfA C o i)
  | 0, _ => h
  | i + 1, hi => bfB_bd hpos (bfA_bd hpos h i (by omega)) (by omega) 6 (by omega)
theorem bfK_bd (hpos : ∀ a b, a < 6 → b < 6 → 0 ≤ C a b) {o : Nat → Int} (h : Bd o) : ∀ k, Bd (bfK C o k)
  | 0 => h
  | k + 1 => bfA_bd hpos (bfK_bd hpos h k) 6 (by omega)

/- Dijkstra: what holds ahead of each turn. 'done': the nodes that are done. -/
structure Dij (C : Nat → Nat → Int) (s : Int) (o : Nat → Int) (done : Nat → Bool) : Prop where
  lo : ∀ v, v < 6 → 0 ≤ o v
  hi : ∀ v, v < 6 → o v ≤ 200
  src : ∀ v : Nat, v < 6 → (v : Int) = s → o v = 0
  fin : ∀ a, a < 6 → done a = true → o a < 200
  ord : ∀ a b, a < 6 → b < 6 → done a = true → done b = false → o a ≤ o b
  step : ∀ a b, a < 6 → b < 6 → done a = true → 0 < C a b → o b ≤ o a + C a b
  pred : ∀ v, v < 6 → o v < 200 → (v : Int) = s ∨ ∃ a, a < 6 ∧ done a = true ∧ 0 < C a v ∧ o v = o a + C a v

theorem Dij.start (C : Nat → Nat → Int) (s : Int) : Dij C s (start s) (fun _ => false) where
  lo v _ := by unfold Lk.start; split <;> omega
  hi v _ := by unfold Lk.start; split <;> omega
  src v _ h := by simp [Lk.start, h]
  fin _ _ h := by simp at h
  ord _ _ _ _ h := by simp at h
  step _ _ _ _ h := by simp at h
  pred v _ h := by
    unfold Lk.start at h
    split at h
    · exact .inl ‹_›
    · omega

theorem Dij.next {o o' : Nat → Int} {done done' : Nat → Bool} (hC : CostOK C) (h : Dij C s o done) {t : Nat} (ht : t < 6) (htd : done t = false) (ht2 : o t < 200)
    (hmin : ∀ n, n < 6 → done n = false → o t ≤ o n)
    (hd' : ∀ n, n < 6 → done' n = (done n || decide (n = t))) (ho' : ∀ b, b < 6 → o' b = if 0 < C t b then min (o b) (o t + C t b) else o b) : Dij C s o' done' := by
  have hself := hC.self t ht
  have hot : o' t = o t := by rw [ho' t ht, hself]; simp
  have hle : ∀ b, b < 6 → o' b ≤ o b := by
    intro b hb; rw [ho' b hb]; split
    · exact Int.min_le_left ..
    · exact Int.le_refl _
  have hdone : ∀ a, a < 6 → done a = true → o' a = o a := by
    intro a ha hda
    have := h.ord a t ha ht hda htd
    rw [ho' a ha]; split
    · omega
    · rfl
  have hd1 : ∀ a, a < 6 → done' a = true → done a = true ∨ a = t := by
    intro a ha h'; rw [hd' a ha] at h'; simpa using h'
  have hge : ∀ b, b < 6 → done b = false → o t ≤ o' b := by
    intro b hb hbd
    have := hmin b hb hbd
    rw [ho' b hb]; split <;> omega
  refine ⟨?_, ?_, ?_, ?_, ?_, ?_, ?_⟩
  · intro v hv
    have := h.lo v hv; have := h.lo t ht
    rw [ho' v hv]; split <;> omega
  · intro v hv; have := hle v hv; have := h.hi v hv; omega
  · intro v hv hs
    have h0 := h.src v hv hs
    have := h.lo t ht
    rw [ho' v hv]; split <;> omega
  · intro a ha hda
    rcases hd1 a ha hda with h' | rfl
    · rw [hdone a ha h']; exact h.fin a ha h'
    · rw [hot]; exact ht2
  · intro a b ha hb hda hdb
    have hdb' : done b = false := by rw [hd' b hb] at hdb; simp at hdb; exact hdb.1
    have := hge b hb hdb'
    rcases hd1 a ha hda with h' | rfl
    · rw [hdone a ha h']
      have := h.ord a t ha ht h' htd
      omega
    · rw [hot]; exact this
  · intro a b ha hb hda hc
    rcases hd1 a ha hda with h' | rfl
    · rw [hdone a ha h']
      have := h.step a b ha hb h' hc
      have := hle b hb
      omega
    · rw [hot, ho' b hb, if_pos hc]
      exact Int.min_le_right ..
  · intro v hv h2
    have hdt : done' t = true := by rw [hd' t ht]; simp
    by_cases e : o' v = o v
    · rw [e] at h2
      rcases h.pred v hv h2 with h' | ⟨a, ha, hda, hc, hs⟩
      · exact .inl h'
      · exact .inr ⟨a, ha, by rw [hd' a ha, hda]; rfl, hc, by rw [e, hdone a ha hda]; exact hs⟩
    · have hv' := ho' v hv
      split at hv'
      · rename_i hc
        exact .inr ⟨t, ht, hdt, hc, by rw [hot]; omega⟩
      · exact absurd hv' e

/-- When no node is left that has a way and is not done, it is the solution. -/
theorem Dij.sol {o : Nat → Int} {done : Nat → Bool} (h : Dij C s o done) (hend : ∀ n, n < 6 → done n = false → 200 ≤ o n) : Sol C s o where
  lo := h.lo
  hi := h.hi
  src := h.src
  step a b ha hb hc := by
    cases hda : done a
    · have := hend a ha hda
      have := h.hi b hb
      omega
    · exact h.step a b ha hb hda hc
  pred v hv h2 := by
    rcases h.pred v hv h2 with h' | ⟨a, ha, _, hc, hs⟩
    · exact .inl h'
    · exact .inr ⟨a, ha, hc, hs⟩

/- The nearest that is not done, as it is looked for. -/
def nearest (o : Nat → Int) (done : Nat → Bool) : Nat → Int
  | 0 => -1
  | n + 1 => if done n = false ∧ o n < 200 ∧ (nearest o done n < 0 ∨ o n < o (nearest o done n).toNat) then (n : Int) else nearest o done n

theorem nearest_spec (o : Nat → Int) (done : Nat → Bool) : ∀ n, (nearest o done n = -1 ∧ ∀ m, m < n → done m = false → 200 ≤ o m) ∨
    (∃ t : Nat, nearest o done n = t ∧ t < n ∧ done t = false ∧ o t < 200 ∧ ∀ m, m < n → done m = false → o t ≤ o m)
  | 0 => .inl ⟨rfl, by omega⟩
  | n + 1 => by
    rcases nearest_spec o done n with ⟨h1, h2⟩ | ⟨t, h1, h2, h3, h4, h5⟩
    · by_cases hc : done n = false ∧ o n < 200
      · refine .inr ⟨n, ?_, by omega, hc.1, hc.2, ?_⟩
        · simp [nearest, hc.1, hc.2, h1]
        · intro m hm hd
          by_cases e : m = n
          · subst e; omega
          · have := h2 m (by omega) hd; omega
      · refine .inl ⟨?_, ?_⟩
        · rw [nearest, if_neg (fun h => hc ⟨h.1, h.2.1⟩)]; exact h1
        · intro m hm hd
          by_cases e : m = n
          · subst e
            have : ¬ o m < 200 := fun h => hc ⟨hd, h⟩
            omega
          · exact h2 m (by omega) hd
    · by_cases hc : done n = false ∧ o n < 200 ∧ o n < o t
      · refine .inr ⟨n, ?_, by omega, hc.1, hc.2.1, ?_⟩
        · rw [nearest, if_pos ⟨hc.1, hc.2.1, .inr (by rw [h1]; simpa using hc.2.2)⟩]
        · intro m hm hd
          by_cases e : m = n
          · subst e; omega
          · have := h5 m (by omega) hd; omega
      · refine .inr ⟨t, ?_, by omega, h3, h4, ?_⟩
        · rw [nearest, if_neg]
          · exact h1
          · rintro ⟨a, b, c⟩
            rcases c with c | c
            · omega
            · rw [h1] at c; exact hc ⟨a, b, by simpa using c⟩
        · intro m hm hd
          by_cases e : m = n
          · subst e
            by_cases h6 : o m < 200
            · have : ¬ o m < o t := fun h => hc ⟨hd, h6, h⟩
              omega
            · omega
          · exact h5 m (by omega) hd

theorem nearest_ge (o : Nat → Int) (done : Nat → Bool) (n : Nat) : -1 ≤ nearest o done n ∧ nearest o done n < n := by
  rcases nearest_spec o done n with ⟨h1, _⟩ | ⟨t, h1, h2, _⟩ <;> omega

/-- All are done as soon as six are. -/
theorem all_done {done : Nat → Bool} (h : (List.range 6).countP done = 6) (n : Nat) (hn : n < 6) : done n = true := by
  have h' : (List.range 6).countP done = (List.range 6).length := by simpa using h
  rw [List.countP_eq_length] at h'
  exact h' n (by simpa using hn)

theorem count_next {done done' : Nat → Bool} {t : Nat} (ht : t < 6) (htd : done t = false) (hd' : ∀ n, n < 6 → done' n = (done n || decide (n = t))) :
    (List.range 6).countP done < (List.range 6).countP done' := by
  refine countP_lt_of _ ?_ ⟨t, by simpa using ht, htd, by rw [hd' t ht]; simp⟩
  intro x hx h
  rw [hd' x (by simpa using hx), h]; rfl

theorem exists_sol (hC : CostOK C) (s : Int) : ∃ d, Sol C s d := by
  have key : ∀ (m : Nat) (o : Nat → Int) (done : Nat → Bool), Dij C s o done → 6 - (List.range 6).countP done = m → ∃ d, Sol C s d := by
    intro m
    induction m using Nat.strongRecOn with
    | _ m ih =>
      intro o done h hm
      rcases nearest_spec o done 6 with ⟨_, h2⟩ | ⟨t, _, h2, h3, h4, h5⟩
      · exact ⟨o, h.sol h2⟩
      · have h6 := h.next (o' := fun b => if 0 < C t b then min (o b) (o t + C t b) else o b) (done' := fun n => done n || decide (n = t)) hC h2 h3 h4 h5 (fun _ _ => rfl) (fun _ _ => rfl)
        have h7 := count_next (done := done) (done' := fun n => done n || decide (n = t)) h2 h3 (fun _ _ => rfl)
        have h8 : (List.range 6).countP (fun n => done n || decide (n = t)) ≤ 6 := by
          have := List.countP_le_length (p := fun n => done n || decide (n = t)) (l := List.range 6)
          simpa using this
        exact ih _ (by omega) _ _ h6 rfl
  exact key _ _ _ (Dij.start C s) rfl

theorem far_sol (hC : CostOK C) (s : Int) : Sol C s (far C s) := by
  obtain ⟨d, hd⟩ := exists_sol hC s
  exact hd.congr (fun _ _ _ _ => rfl) (fun v hv => (far_eq hd hC.lo v hv).symm)

end
end Go.Proofs.Ytdpgbgapelgomaa.Lk
