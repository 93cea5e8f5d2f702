/- Prefixes and tables of routes: what the functions compute, in plain words of lists; no program. -/
namespace Go.Proofs.Ytdkkeaegmmepfaa.Tb

/-- A prefix. -/
structure Pf where
  len : Int
  bits : Int
theorem pf_eq {p q : Pf} (h1 : p.len = q.len) (h2 : p.bits = q.bits) : p = q := by cases p; cases q; simp_all
instance : DecidableEq Pf := fun p q => decidable_of_iff (p.len = q.len ∧ p.bits = q.bits) ⟨fun h => pf_eq h.1 h.2, fun h => by rw [h]; exact ⟨rfl, rfl⟩⟩
/-- A route. -/
structure Rt where
  p : Pf
  hop : Int
instance : DecidableEq Rt := fun r s => decidable_of_iff (r.p = s.p ∧ r.hop = s.hop) ⟨fun h => by cases r; cases s; simp_all, fun h => by rw [h]; exact ⟨rfl, rfl⟩⟩
instance : Inhabited Rt := ⟨⟨⟨0, 0⟩, 0⟩⟩

def ok (p : Pf) : Prop := 0 ≤ p.len ∧ p.len ≤ 8 ∧ 0 ≤ p.bits ∧ p.bits < 2 ^ p.len.toNat
instance (p : Pf) : Decidable (ok p) := by unfold ok; infer_instance
def hopOK (h : Int) : Prop := -1 ≤ h ∧ h < 6
instance (h : Int) : Decidable (hopOK h) := by unfold hopOK; infer_instance
/-- How many addresses. -/
def span (p : Pf) : Int := 2 ^ (8 - p.len).toNat
def fst (p : Pf) : Int := if ok p then p.bits * span p else -1
def lst (p : Pf) : Int := if ok p then p.bits * span p + span p - 1 else -1
def has (p : Pf) (a : Int) : Prop := ok p ∧ fst p ≤ a ∧ a ≤ lst p
instance (p : Pf) (a : Int) : Decidable (has p a) := by unfold has; infer_instance
def less (p q : Pf) : Prop := fst p < fst q ∨ (fst p = fst q ∧ p.len < q.len)
instance (p q : Pf) : Decidable (less p q) := by unfold less; infer_instance

/-- The lengths that a prefix may have, with what goes by them. -/
theorem ok_cases {p : Pf} (h : ok p) : (p.len = 0 ∧ span p = 256 ∧ p.bits < 1) ∨ (p.len = 1 ∧ span p = 128 ∧ p.bits < 2) ∨ (p.len = 2 ∧ span p = 64 ∧ p.bits < 4) ∨ (p.len = 3 ∧ span p = 32 ∧ p.bits < 8) ∨
    (p.len = 4 ∧ span p = 16 ∧ p.bits < 16) ∨ (p.len = 5 ∧ span p = 8 ∧ p.bits < 32) ∨ (p.len = 6 ∧ span p = 4 ∧ p.bits < 64) ∨ (p.len = 7 ∧ span p = 2 ∧ p.bits < 128) ∨ (p.len = 8 ∧ span p = 1 ∧ p.bits < 256) := by
  obtain ⟨l, b⟩ := p
  obtain ⟨h1, h2, h3, h4⟩ := h
  unfold span
  dsimp only at h1 h2 h3 h4 ⊢
  have : l = 0 ∨ l = 1 ∨ l = 2 ∨ l = 3 ∨ l = 4 ∨ l = 5 ∨ l = 6 ∨ l = 7 ∨ l = 8 := by omega
  rcases this with rfl | rfl | rfl | rfl | rfl | rfl | rfl | rfl | rfl
  · exact .inl ⟨rfl, rfl, h4⟩
  · exact .inr (.inl ⟨rfl, rfl, h4⟩)
  · exact .inr (.inr (.inl ⟨rfl, rfl, h4⟩))
  · exact .inr (.inr (.inr (.inl ⟨rfl, rfl, h4⟩)))
  · exact .inr (.inr (.inr (.inr (.inl ⟨rfl, rfl, h4⟩))))
  · exact .inr (.inr (.inr (.inr (.inr (.inl ⟨rfl, rfl, h4⟩)))))
  · exact .inr (.inr (.inr (.inr (.inr (.inr (.inl ⟨rfl, rfl, h4⟩))))))
  · exact .inr (.inr (.inr (.inr (.inr (.inr (.inr (.inl ⟨rfl, rfl, h4⟩)))))))
  · exact .inr (.inr (.inr (.inr (.inr (.inr (.inr (.inr ⟨rfl, rfl, h4⟩)))))))
theorem fst_ok {p : Pf} (h : ok p) : fst p = p.bits * span p := by unfold fst; rw [if_pos h]
theorem lst_ok {p : Pf} (h : ok p) : lst p = p.bits * span p + span p - 1 := by unfold lst; rw [if_pos h]
theorem fst_no {p : Pf} (h : ¬ ok p) : fst p = -1 := by unfold fst; rw [if_neg h]
theorem lst_no {p : Pf} (h : ¬ ok p) : lst p = -1 := by unfold lst; rw [if_neg h]
theorem fst_ge {p : Pf} (h : ok p) : 0 ≤ fst p := by
  rw [fst_ok h]
  have h3 := h.2.2.1
  rcases ok_cases h with h | h | h | h | h | h | h | h | h <;> (obtain ⟨_, e, _⟩ := h; rw [e]; omega)
theorem fst_lo (p : Pf) : -1 ≤ fst p := by
  by_cases h : ok p
  · have := fst_ge h; omega
  · rw [fst_no h]; omega
theorem fst_le {p : Pf} (h : ok p) : fst p ≤ lst p ∧ lst p < 256 := by
  rw [fst_ok h, lst_ok h]
  have h3 := h.2.2.1
  rcases ok_cases h with h | h | h | h | h | h | h | h | h <;> (obtain ⟨_, e, _⟩ := h; rw [e]; omega)
theorem has_range {p : Pf} {a : Int} (h : has p a) : 0 ≤ a ∧ a < 256 := by
  have := fst_ge h.1; have := fst_le h.1; have := h.2; omega
/-- Which addresses: those that, without their last bits, are the bits. -/
theorem has_div {p : Pf} {a : Int} (h : ok p) : has p a ↔ a / span p = p.bits := by
  unfold has
  rw [fst_ok h, lst_ok h]
  have h3 := h.2.2.1
  have : (p.bits * span p ≤ a ∧ a ≤ p.bits * span p + span p - 1) ↔ a / span p = p.bits := by
    rcases ok_cases h with h | h | h | h | h | h | h | h | h <;> (obtain ⟨_, e, _⟩ := h; rw [e]; omega)
  rw [← this]
  exact ⟨fun h => h.2, fun h' => ⟨h, h'⟩⟩
theorem has_first {p : Pf} (h : ok p) : has p (fst p) := ⟨h, Int.le_refl _, (fst_le h).1⟩
theorem has_last {p : Pf} (h : ok p) : has p (lst p) := ⟨h, (fst_le h).1, Int.le_refl _⟩
theorem less_irrefl (p : Pf) : ¬ less p p := by unfold less; omega
theorem less_trans {p q r : Pf} (h1 : less p q) (h2 : less q r) : less p r := by unfold less at *; omega
theorem less_asymm {p q : Pf} (h1 : less p q) : ¬ less q p := by unfold less at *; omega
theorem less_no {p q : Pf} (h : ¬ ok p) (hq : ok q) : less p q := by
  unfold less
  rw [fst_no h]
  have := fst_ge hq
  omega
theorem less_total {p q : Pf} (hp : ok p) (hq : ok q) (h1 : ¬ less p q) (h2 : ¬ less q p) : p = q := by
  unfold less at h1 h2
  have e1 : fst p = fst q := by omega
  have e2 : p.len = q.len := by omega
  refine pf_eq e2 ?_
  rw [fst_ok hp, fst_ok hq] at e1
  have e3 : span p = span q := by unfold span; rw [e2]
  rw [← e3] at e1
  rcases ok_cases hp with h | h | h | h | h | h | h | h | h <;> (obtain ⟨_, e, _⟩ := h; rw [e] at e1; omega)
/-- Of two prefixes that have an address the one that stands behind is longer. -/
theorem nested {p q : Pf} {a : Int} (h : less p q) (hp : has p a) (hq : has q a) : p.len < q.len := by
  unfold less at h
  rcases h with h | h
  · have h1 := hp.2; have h2 := hq.2
    rw [fst_ok hp.1, lst_ok hp.1] at h1
    rw [fst_ok hq.1, lst_ok hq.1] at h2
    rw [fst_ok hp.1, fst_ok hq.1] at h
    rcases ok_cases hp.1 with k | k | k | k | k | k | k | k | k <;> (obtain ⟨l1, e1, _⟩ := k; rw [e1] at h h1; rcases ok_cases hq.1 with k | k | k | k | k | k | k | k | k <;> (obtain ⟨l2, e2, _⟩ := k; rw [e2] at h h2; omega))
  · exact h.2

/-- Routes as they may stand in a table. -/
def Wf (L : List Rt) : Prop := (∀ r ∈ L, ok r.p ∧ hopOK r.hop) ∧ L.Pairwise (fun r s => less r.p s.p)
theorem Wf.nil : Wf [] := ⟨fun _ h => (by cases h), List.Pairwise.nil⟩
theorem Wf.ok {L : List Rt} (h : Wf L) {r : Rt} (hr : r ∈ L) : Tb.ok r.p := (h.1 r hr).1

def lo (L : List Rt) (p : Pf) : List Rt := L.filter fun r => decide (less r.p p)
def hi (L : List Rt) (p : Pf) : List Rt := L.filter fun r => decide (less p r.p)
def mid (p : Pf) (hop : Int) : List Rt := if hop = -2 then [] else [⟨p, hop⟩]
/-- Where the route of a prefix goes. -/
def get : List Rt → Pf → Int
  | [], _ => -2
  | r :: l, p => if r.p = p ∧ Tb.ok p then r.hop else get l p
def setOk (L : List Rt) (p : Pf) (hop : Int) : List Rt := lo L p ++ mid p hop ++ hi L p
def setC (L : List Rt) (p : Pf) (hop : Int) : Int :=
  if ¬ Tb.ok p ∨ (hop ≠ -2 ∧ ¬ hopOK hop) then 1 else if get L p = -2 ∧ hop = -2 then 6 else if get L p = -2 ∧ 40 ≤ L.length then 9 else 0
def setL (L : List Rt) (p : Pf) (hop : Int) : List Rt := if setC L p hop = 0 then setOk L p hop else L

theorem get_no {L : List Rt} {p : Pf} (h : ¬ Tb.ok p) : get L p = -2 := by
  induction L with
  | nil => rfl
  | cons r l ih => unfold get; rw [if_neg (fun k => h k.2)]; exact ih
theorem get_none {L : List Rt} {p : Pf} (h : ∀ r ∈ L, r.p ≠ p) : get L p = -2 := by
  induction L with
  | nil => rfl
  | cons r l ih => unfold get; rw [if_neg (fun k => h r (List.mem_cons_self ..) k.1)]; exact ih (fun s hs => h s (List.mem_cons_of_mem _ hs))
theorem get_skip {A B : List Rt} {p : Pf} (h : ∀ r ∈ A, ¬ (r.p = p ∧ Tb.ok p)) : get (A ++ B) p = get B p := by
  induction A with
  | nil => rfl
  | cons r l ih =>
    rw [List.cons_append]
    show (if r.p = p ∧ Tb.ok p then r.hop else get (l ++ B) p) = _
    rw [if_neg (h r (List.mem_cons_self ..))]
    exact ih (fun s hs => h s (List.mem_cons_of_mem _ hs))
theorem get_hit {A B : List Rt} {p : Pf} {h : Int} (hp : Tb.ok p) (hA : ∀ r ∈ A, r.p ≠ p) : get (A ++ ⟨p, h⟩ :: B) p = h := by
  rw [get_skip (fun r hr k => hA r hr k.1)]
  simp [get, hp]
/-- Of routes that are well, a prefix: what is ahead, itself, what is behind. -/
theorem split_wf {L : List Rt} (h : Wf L) {p : Pf} (hp : Tb.ok p) : (get L p = -2 ∧ L = lo L p ++ hi L p ∧ ∀ r ∈ L, r.p ≠ p) ∨ (get L p ≠ -2 ∧ hopOK (get L p) ∧ L = lo L p ++ ⟨p, get L p⟩ :: hi L p) := by
  induction L with
  | nil => exact .inl ⟨rfl, rfl, fun _ h => by cases h⟩
  | cons r l ih =>
    have hl : Wf l := ⟨fun s hs => h.1 s (List.mem_cons_of_mem _ hs), (List.pairwise_cons.1 h.2).2⟩
    have hb := (List.pairwise_cons.1 h.2).1
    obtain ⟨hr1, hr2⟩ := h.1 r (List.mem_cons_self ..)
    by_cases h1 : less r.p p
    · have e1 : lo (r :: l) p = r :: lo l p := by unfold lo; rw [List.filter_cons_of_pos (by simpa using h1)]
      have e2 : hi (r :: l) p = hi l p := by unfold hi; rw [List.filter_cons_of_neg (by simpa using less_asymm h1)]
      have hne : r.p ≠ p := fun e => less_irrefl p (e ▸ h1)
      have e3 : get (r :: l) p = get l p := by show (if r.p = p ∧ Tb.ok p then r.hop else get l p) = _; rw [if_neg (fun k => hne k.1)]
      rw [e1, e2, e3]
      rcases ih hl with ⟨g1, g2, g3⟩ | ⟨g1, g2, g3⟩
      · refine .inl ⟨g1, by rw [List.cons_append, ← g2], fun s hs => ?_⟩
        rcases List.mem_cons.1 hs with rfl | hs
        · exact hne
        · exact g3 s hs
      · exact .inr ⟨g1, g2, by rw [List.cons_append, ← g3]⟩
    · have hlo : ∀ s ∈ l, ¬ less s.p p := fun s hs k => h1 (less_trans (hb s hs) k)
      have e1 : lo (r :: l) p = [] := by
        unfold lo
        rw [List.filter_eq_nil_iff]
        intro s hs
        rcases List.mem_cons.1 hs with rfl | hs
        · simpa using h1
        · simpa using hlo s hs
      by_cases h2 : less p r.p
      · have hhi : ∀ s ∈ r :: l, less p s.p := fun s hs => by
          rcases List.mem_cons.1 hs with rfl | hs
          · exact h2
          · exact less_trans h2 (hb s hs)
        have e2 : hi (r :: l) p = r :: l := by
          unfold hi
          rw [List.filter_eq_self]
          intro s hs
          simpa using hhi s hs
        have hne : ∀ s ∈ r :: l, s.p ≠ p := fun s hs e => less_irrefl p (by have := hhi s hs; rwa [e] at this)
        rw [e1, e2]
        exact .inl ⟨get_none hne, rfl, hne⟩
      · have he : r.p = p := less_total hr1 hp h1 h2
        have hhi : ∀ s ∈ l, less p s.p := fun s hs => he ▸ hb s hs
        have e2 : hi (r :: l) p = l := by
          unfold hi
          rw [List.filter_cons_of_neg (by simpa using h2), List.filter_eq_self]
          intro s hs
          simpa using hhi s hs
        have e3 : get (r :: l) p = r.hop := by show (if r.p = p ∧ Tb.ok p then r.hop else get l p) = _; rw [if_pos ⟨he, hp⟩]
        rw [e1, e2, e3]
        refine .inr ⟨?_, hr2, ?_⟩
        · unfold hopOK at hr2; omega
        · cases r; simp_all
theorem lo_le (L : List Rt) (p : Pf) : (lo L p).length ≤ L.length := List.length_filter_le _ _

theorem lo_mem {L : List Rt} {p : Pf} {r : Rt} (h : r ∈ lo L p) : r ∈ L ∧ less r.p p := by
  unfold lo at h; rw [List.mem_filter] at h; exact ⟨h.1, by simpa using h.2⟩
theorem hi_mem {L : List Rt} {p : Pf} {r : Rt} (h : r ∈ hi L p) : r ∈ L ∧ less p r.p := by
  unfold hi at h; rw [List.mem_filter] at h; exact ⟨h.1, by simpa using h.2⟩
theorem mid_mem {p : Pf} {h : Int} {r : Rt} (hr : r ∈ mid p h) : r = ⟨p, h⟩ ∧ h ≠ -2 := by
  unfold mid at hr
  split at hr
  · cases hr
  · rename_i h1; simp at hr; exact ⟨hr, h1⟩
theorem wf_set {L : List Rt} (h : Wf L) {p : Pf} {hop : Int} (hp : Tb.ok p) (hh : hop = -2 ∨ hopOK hop) : Wf (setOk L p hop) := by
  refine ⟨fun r hr => ?_, ?_⟩
  · unfold setOk at hr
    rcases List.mem_append.1 hr with hr | hr
    · rcases List.mem_append.1 hr with hr | hr
      · exact h.1 r (lo_mem hr).1
      · obtain ⟨rfl, h1⟩ := mid_mem hr
        exact ⟨hp, hh.resolve_left h1⟩
    · exact h.1 r (hi_mem hr).1
  · unfold setOk
    rw [List.pairwise_append, List.pairwise_append]
    refine ⟨⟨h.2.filter _, ?_, ?_⟩, h.2.filter _, ?_⟩
    · unfold mid; split
      · exact List.Pairwise.nil
      · simp
    · intro a ha b hb
      obtain ⟨rfl, _⟩ := mid_mem hb
      exact (lo_mem ha).2
    · intro a ha b hb
      rcases List.mem_append.1 ha with ha | ha
      · exact less_trans (lo_mem ha).2 (hi_mem hb).2
      · obtain ⟨rfl, _⟩ := mid_mem ha
        exact (hi_mem hb).2
theorem setC_0 {L : List Rt} {p : Pf} {hop : Int} (h : setC L p hop = 0) : Tb.ok p ∧ (hop = -2 ∨ hopOK hop) ∧ ¬ (get L p = -2 ∧ hop = -2) ∧ ¬ (get L p = -2 ∧ 40 ≤ L.length) := by
  unfold setC at h
  split at h
  · cases h
  · rename_i h1
    split at h
    · cases h
    · rename_i h2
      split at h
      · cases h
      · rename_i h3
        refine ⟨by simp at h1; exact h1.1, ?_, h2, h3⟩
        by_cases e : hop = -2
        · exact .inl e
        · refine .inr ?_
          simp at h1
          exact h1.2 e
theorem len_set {L : List Rt} (h : Wf L) {p : Pf} {hop : Int} (hl : L.length ≤ 40) (hc : setC L p hop = 0) : (setOk L p hop).length ≤ 40 := by
  obtain ⟨hp, _, h2, h3⟩ := setC_0 hc
  have hm : (mid p hop).length ≤ 1 := by unfold mid; split <;> simp
  unfold setOk
  rw [List.length_append, List.length_append]
  rcases split_wf h hp with ⟨g1, g2, _⟩ | ⟨g1, _, g2⟩
  · have := congrArg List.length g2
    rw [List.length_append] at this
    omega
  · have := congrArg List.length g2
    rw [List.length_append, List.length_cons] at this
    omega
theorem setL_ok {L : List Rt} (h : Wf L) (hl : L.length ≤ 40) (p : Pf) (hop : Int) : Wf (setL L p hop) ∧ (setL L p hop).length ≤ 40 := by
  unfold setL
  split
  · rename_i hc
    obtain ⟨hp, hh, _, _⟩ := setC_0 hc
    exact ⟨wf_set h hp hh, len_set h hl hc⟩
  · exact ⟨h, hl⟩

/-- Where an address goes: by the last route that has it. -/
def lookF (a : Int) (h : Int) (r : Rt) : Int := if has r.p a then r.hop else h
def look (L : List Rt) (a : Int) : Int := L.foldl (lookF a) (-1)
/-- .. by the longest one. -/
def lookG (a : Int) (s : Int × Int) (r : Rt) : Int × Int := if has r.p a ∧ s.2 < r.p.len then (r.hop, r.p.len) else s
def lookR (L : List Rt) (a : Int) : Int × Int := L.foldl (lookG a) (-1, -1)
theorem look_app (L : List Rt) (r : Rt) (a : Int) : look (L ++ [r]) a = lookF a (look L a) r := by unfold look; rw [List.foldl_append]; rfl
theorem lookR_app (L : List Rt) (r : Rt) (a : Int) : lookR (L ++ [r]) a = lookG a (lookR L a) r := by unfold lookR; rw [List.foldl_append]; rfl
theorem wf_app {L : List Rt} {r : Rt} (h : Wf (L ++ [r])) : Wf L ∧ ∀ s ∈ L, less s.p r.p := by
  refine ⟨⟨fun s hs => h.1 s (List.mem_append_left _ hs), (List.pairwise_append.1 h.2).1⟩, fun s hs => (List.pairwise_append.1 h.2).2.2 s hs r (List.mem_singleton.2 rfl)⟩
theorem look_both {L : List Rt} (h : Wf L) (a : Int) : (lookR L a).1 = look L a ∧ ((lookR L a).2 = -1 ∨ ∃ s ∈ L, has s.p a ∧ (lookR L a).2 = s.p.len) := by
  revert h
  generalize hn : L.length = n
  intro h
  induction n generalizing L with
  | zero =>
    rw [List.length_eq_zero_iff.1 hn]
    exact ⟨rfl, .inl rfl⟩
  | succ n ih =>
    obtain ⟨T, r, rfl⟩ : ∃ T r, L = T ++ [r] := ⟨L.dropLast, L.getLast (by intro e; rw [e] at hn; cases hn), (List.dropLast_concat_getLast _).symm⟩
    obtain ⟨h1, h2⟩ := wf_app h
    obtain ⟨i1, i2⟩ := ih (by simpa using hn) h1
    have hr := (h.1 r (List.mem_append_right _ (List.mem_singleton.2 rfl))).1
    rw [look_app, lookR_app]
    unfold lookG lookF
    by_cases hh : has r.p a
    · have hlt : (lookR T a).2 < r.p.len := by
        rcases i2 with e | ⟨s, hs, h3, e⟩
        · rw [e]; have := hr.1; omega
        · rw [e]; exact nested (h2 s hs) h3 hh
      rw [if_pos ⟨hh, hlt⟩, if_pos hh]
      exact ⟨rfl, .inr ⟨r, List.mem_append_right _ (List.mem_singleton.2 rfl), hh, rfl⟩⟩
    · rw [if_neg (fun k => hh k.1), if_neg hh]
      refine ⟨i1, ?_⟩
      rcases i2 with e | ⟨s, hs, h3, e⟩
      · exact .inl e
      · exact .inr ⟨s, List.mem_append_left _ hs, h3, e⟩

/-- The first fault in a row. -/
def fF (f : Nat → Int) (k : Nat) : Nat → Int
  | 0 => 0
  | n + 1 => if f k ≠ 0 then f k else fF f (k + 1) n
theorem fF_hit {f : Nat → Int} : ∀ (n k m : Nat), k ≤ m → m < k + n → (∀ j, k ≤ j → j < m → f j = 0) → f m ≠ 0 → fF f k n = f m
  | 0, _, _, h1, h2, _, _ => by omega
  | n + 1, k, m, h1, h2, h3, h4 => by
    unfold fF
    by_cases e : k = m
    · subst e; rw [if_pos h4]
    · rw [if_neg (by rw [h3 k (Nat.le_refl _) (by omega)]; simp)]
      exact fF_hit n (k + 1) m (by omega) (by omega) (fun j h5 h6 => h3 j (by omega) h6) h4
theorem fF_zero {f : Nat → Int} : ∀ (n k : Nat), (∀ j, k ≤ j → j < k + n → f j = 0) → fF f k n = 0
  | 0, _, _ => rfl
  | n + 1, k, h => by
    unfold fF
    rw [if_neg (by rw [h k (Nat.le_refl _) (by omega)]; simp)]
    exact fF_zero n (k + 1) (fun j h1 h2 => h j (by omega) (by omega))
theorem fF_all {f : Nat → Int} : ∀ (n k : Nat), fF f k n = 0 → ∀ j, k ≤ j → j < k + n → f j = 0
  | 0, _, _, j, h1, h2 => by omega
  | n + 1, k, h, j, h1, h2 => by
    unfold fF at h
    by_cases e : f k ≠ 0
    · rw [if_pos e] at h; exact absurd h e
    · rw [if_neg e] at h
      by_cases e2 : j = k
      · subst e2; simpa using e
      · exact fF_all n (k + 1) h j (by omega) (by omega)
def nth (L : List Rt) (k : Nat) : Rt := L.getD k default
def faultAt (L : List Rt) (k : Nat) : Int :=
  if ¬ Tb.ok (nth L k).p ∨ ¬ hopOK (nth L k).hop then 1 else if 0 < k ∧ (nth L (k - 1)).p = (nth L k).p then 5 else if 0 < k ∧ ¬ less (nth L (k - 1)).p (nth L k).p then 4 else 0
def chk (L : List Rt) : Int := if 40 < L.length then 3 else fF (faultAt L) 0 L.length
theorem faultAt_0 {L : List Rt} {k : Nat} (h : faultAt L k = 0) : Tb.ok (nth L k).p ∧ hopOK (nth L k).hop ∧ (0 < k → less (nth L (k - 1)).p (nth L k).p) := by
  unfold faultAt at h
  split at h
  · cases h
  · rename_i h1
    split at h
    · cases h
    · split at h
      · cases h
      · rename_i h3
        simp at h1 h3
        exact ⟨h1.1, h1.2, h3⟩
theorem nth_eq {L : List Rt} {k : Nat} (h : k < L.length) : nth L k = L[k] := by unfold nth; simp [List.getD_eq_getElem?_getD, h]
theorem nth_mem {L : List Rt} {k : Nat} (h : k < L.length) : nth L k ∈ L := by rw [nth_eq h]; exact List.getElem_mem _
theorem take_succ {L : List Rt} {k : Nat} (h : k < L.length) : L.take (k + 1) = L.take k ++ [nth L k] := by rw [nth_eq h, List.take_succ_eq_append_getElem h]
theorem wf_snoc {L : List Rt} {r : Rt} (h : Wf L) (h1 : Tb.ok r.p) (h2 : hopOK r.hop) (h3 : ∀ s, L.getLast? = some s → less s.p r.p) : Wf (L ++ [r]) := by
  refine ⟨fun s hs => ?_, ?_⟩
  · rcases List.mem_append.1 hs with hs | hs
    · exact h.1 s hs
    · rw [List.mem_singleton.1 hs]; exact ⟨h1, h2⟩
  · rw [List.pairwise_append]
    refine ⟨h.2, List.pairwise_singleton _ _, fun s hs b hb => ?_⟩
    rw [List.mem_singleton.1 hb]
    have hne : L ≠ [] := List.ne_nil_of_mem hs
    have hl := h3 _ (List.getLast?_eq_some_getLast hne)
    rw [← List.dropLast_concat_getLast hne] at hs
    rcases List.mem_append.1 hs with hs | hs
    · have hp := h.2
      rw [← List.dropLast_concat_getLast hne, List.pairwise_append] at hp
      exact less_trans (hp.2.2 s hs _ (List.mem_singleton.2 rfl)) hl
    · rw [List.mem_singleton.1 hs]; exact hl
theorem wf_of_faults {L : List Rt} (h : ∀ j, j < L.length → faultAt L j = 0) : ∀ k, k ≤ L.length → Wf (L.take k)
  | 0, _ => by rw [List.take_zero]; exact Wf.nil
  | k + 1, hk => by
    rw [take_succ (by omega)]
    obtain ⟨h1, h2, h3⟩ := faultAt_0 (h k (by omega))
    refine wf_snoc (wf_of_faults h k (by omega)) h1 h2 (fun s hs => ?_)
    cases k with
    | zero => simp at hs
    | succ k =>
      rw [take_succ (by omega)] at hs
      simp at hs
      subst hs
      simpa using h3 (by omega)
theorem chk_wf {L : List Rt} (h : chk L = 0) : Wf L ∧ L.length ≤ 40 := by
  unfold chk at h
  split at h
  · cases h
  · rename_i h1
    have := wf_of_faults (fun j hj => fF_all _ _ h j (Nat.zero_le _) (by omega)) L.length (Nat.le_refl _)
    rw [List.take_length] at this
    exact ⟨this, by omega⟩
theorem wf_faults {L : List Rt} (h : Wf L) {k : Nat} (hk : k < L.length) : faultAt L k = 0 := by
  have h1 := h.1 _ (nth_mem hk)
  unfold faultAt
  rw [if_neg (by simp [h1.1, h1.2])]
  by_cases h0 : 0 < k
  · have hl : less (nth L (k - 1)).p (nth L k).p := by
      rw [nth_eq hk, nth_eq (by omega : k - 1 < L.length)]
      exact List.pairwise_iff_getElem.1 h.2 (k - 1) k (by omega) hk (by omega)
    rw [if_neg (fun e => less_irrefl (nth L k).p (by have := hl; rwa [e.2] at this)), if_neg (by simp [hl])]
  · rw [if_neg (fun e => h0 e.1), if_neg (fun e => h0 e.1)]
theorem chk_of_wf {L : List Rt} (h : Wf L) : chk L = if 40 < L.length then 3 else 0 := by
  unfold chk
  split
  · rfl
  · exact fF_zero _ _ (fun j _ h2 => wf_faults h (by omega))

/-- Where all addresses go. -/
def allOf (L : List Rt) : List Int := (List.range 256).map fun (a : Nat) => look L a
theorem allOf_len (L : List Rt) : (allOf L).length = 256 := by simp [allOf]

/-- The steps of a script of routes. -/
def play (S : List Rt) : List Rt := S.foldl (fun L s => setL L s.p s.hop) []
theorem play_app (S : List Rt) (r : Rt) : play (S ++ [r]) = setL (play S) r.p r.hop := by unfold play; rw [List.foldl_append]; rfl
theorem play_ok (S : List Rt) : Wf (play S) ∧ (play S).length ≤ 40 := by
  unfold play
  suffices h : ∀ L, Wf L ∧ L.length ≤ 40 → Wf (S.foldl (fun L s => setL L s.p s.hop) L) ∧ (S.foldl (fun L s => setL L s.p s.hop) L).length ≤ 40 from h [] ⟨Wf.nil, by simp⟩
  induction S with
  | nil => exact fun L h => h
  | cons r S ih => exact fun L h => ih _ (setL_ok h.1 h.2 r.p r.hop)
end Go.Proofs.Ytdkkeaegmmepfaa.Tb
/- Of a row of routes: where a prefix stands, or would stand. -/
namespace Go.Proofs.Ytdkkeaegmmepfaa.Tb

def cmp (r p : Pf) : Int := if less r p then -1 else if less p r then 1 else 0
/-- A place ahead of which all are less, and behind which none is. -/
def Place (L : List Rt) (p : Pf) (i : Nat) : Prop := i ≤ L.length ∧ (∀ t, t < i → less (nth L t).p p) ∧ (∀ t, i ≤ t → t < L.length → ¬ less (nth L t).p p)
theorem place_lo {L : List Rt} {p : Pf} {i : Nat} (h : Place L p i) : lo L p = L.take i ∧ (lo L p).length = i := by
  have h1 : lo L p = L.take i := by
    unfold lo
    conv => lhs; rw [← List.take_append_drop i L]
    rw [List.filter_append]
    have e1 : (L.take i).filter (fun r => decide (less r.p p)) = L.take i := by
      rw [List.filter_eq_self]
      intro r hr
      obtain ⟨t, ht, rfl⟩ := List.getElem_of_mem hr
      have h2 := h.2.1 t (by simp at ht; omega)
      rw [nth_eq (by simp at ht; omega)] at h2
      simpa using h2
    have e2 : (L.drop i).filter (fun r => decide (less r.p p)) = [] := by
      rw [List.filter_eq_nil_iff]
      intro r hr
      obtain ⟨t, ht, rfl⟩ := List.getElem_of_mem hr
      have h2 := h.2.2 (i + t) (by omega) (by simp at ht; omega)
      rw [nth_eq (by simp at ht; omega)] at h2
      simpa using h2
    rw [e1, e2, List.append_nil]
  refine ⟨h1, ?_⟩
  rw [h1, List.length_take]
  have := h.1
  omega
theorem mono_less {L : List Rt} (h : Wf L) {p : Pf} {s t : Nat} (hst : s ≤ t) (ht : t < L.length) (hl : less (nth L t).p p) : less (nth L s).p p := by
  by_cases e : s = t
  · subst e; exact hl
  · have := List.pairwise_iff_getElem.1 h.2 s t (by omega) ht (by omega)
    rw [← nth_eq (by omega : s < L.length), ← nth_eq ht] at this
    exact less_trans this hl
theorem found_iff {L : List Rt} (h : Wf L) {p : Pf} {i : Nat} (hi : Place L p i) : (decide (i < L.length) && decide (cmp (nth L i).p p = 0)) = decide (get L p ≠ -2) := by
  by_cases hp : Tb.ok p
  · obtain ⟨e1, e2⟩ := place_lo hi
    rcases split_wf h hp with ⟨g1, g2, g3⟩ | ⟨g1, g2, g3⟩
    · rw [decide_eq_false (by simp [g1] : ¬ get L p ≠ -2)]
      by_cases hil : i < L.length
      · have h1 := hi.2.2 i (Nat.le_refl _) hil
        have h2 := g3 _ (nth_mem hil)
        have h3 : less p (nth L i).p := by
          by_cases k : less p (nth L i).p
          · exact k
          · exact absurd (less_total (h.ok (nth_mem hil)) hp h1 k) h2
        unfold cmp
        rw [if_neg h1, if_pos h3]
        simp
      · simp [hil]
    · rw [decide_eq_true g1]
      have hil : i < L.length := by
        have := congrArg List.length g3
        rw [List.length_append, List.length_cons, e2] at this
        omega
      have hn : nth L i = ⟨p, get L p⟩ := by
        have : L[i]? = some ⟨p, get L p⟩ := by
          conv => lhs; rw [g3]
          rw [List.getElem?_append_right (by omega), e2]; simp
        unfold nth; rw [List.getD_eq_getElem?_getD, this]; rfl
      rw [hn]
      unfold cmp
      simp [hil, less_irrefl]
  · rw [get_no hp]
    by_cases hil : i < L.length
    · have h1 := hi.2.2 i (Nat.le_refl _) hil
      have h3 : less p (nth L i).p := less_no hp (h.ok (nth_mem hil))
      unfold cmp
      rw [if_neg h1, if_pos h3]
      simp
    · simp [hil]
theorem found_nth {L : List Rt} (h : Wf L) {p : Pf} (hg : get L p ≠ -2) : Tb.ok p ∧ (lo L p).length < L.length ∧ nth L (lo L p).length = ⟨p, get L p⟩ ∧ lo L p = L.take (lo L p).length ∧ hi L p = L.drop ((lo L p).length + 1) := by
  have hp : Tb.ok p := by
    by_cases k : Tb.ok p
    · exact k
    · exact absurd (get_no k) hg
  rcases split_wf h hp with ⟨g1, _, _⟩ | ⟨_, _, g3⟩
  · exact absurd g1 hg
  · refine ⟨hp, ?_⟩
    generalize lo L p = A at *
    generalize hi L p = C at *
    generalize get L p = g at *
    subst g3
    refine ⟨by simp, ?_, by simp, by simp⟩
    unfold nth
    rw [List.getD_eq_getElem?_getD, List.getElem?_append_right (Nat.le_refl _)]
    simp
theorem notfound_split {L : List Rt} (h : Wf L) {p : Pf} (hp : Tb.ok p) (hg : get L p = -2) : lo L p = L.take (lo L p).length ∧ hi L p = L.drop (lo L p).length := by
  rcases split_wf h hp with ⟨_, g2, _⟩ | ⟨g1, _, _⟩
  · generalize lo L p = A at *
    generalize hi L p = C at *
    clear hg h
    subst g2
    exact ⟨by simp, by simp⟩
  · exact absurd hg g1
end Go.Proofs.Ytdkkeaegmmepfaa.Tb
/- The document's SetOf, element by element, comes to the same as the plain words. -/
namespace Go.Proofs.Ytdkkeaegmmepfaa.Tb

def stS (p : Pf) (hop : Int) (s : List Rt × Bool) (r : Rt) : List Rt × Bool :=
  if r.p = p then s else if s.2 = false ∧ less p r.p then (s.1 ++ [⟨p, hop⟩] ++ [r], true) else (s.1 ++ [r], s.2)
def soF (L : List Rt) (p : Pf) (hop : Int) : List Rt × Bool := L.foldl (stS p hop) ([], hop == -2)
def soEnd (s : List Rt × Bool) (p : Pf) (hop : Int) : List Rt := if s.2 then s.1 else s.1 ++ [⟨p, hop⟩]
theorem soF_app (L : List Rt) (r : Rt) (p : Pf) (hop : Int) : soF (L ++ [r]) p hop = stS p hop (soF L p hop) r := by unfold soF; rw [List.foldl_append]; rfl
theorem soF_len (p : Pf) (hop : Int) : ∀ (n : Nat) (L : List Rt), L.length = n → (soF L p hop).1.length ≤ 2 * n
  | 0, L, h => by rw [List.length_eq_zero_iff.1 h]; simp [soF]
  | n + 1, L, h => by
    obtain ⟨T, r, rfl⟩ : ∃ T r, L = T ++ [r] := ⟨L.dropLast, L.getLast (by intro e; rw [e] at h; cases h), (List.dropLast_concat_getLast _).symm⟩
    have := soF_len p hop n T (by simpa using h)
    rw [soF_app]
    unfold stS
    split
    · omega
    · split <;> simp <;> omega
theorem lo_app (A B : List Rt) (p : Pf) : lo (A ++ B) p = lo A p ++ lo B p := by unfold lo; rw [List.filter_append]
theorem hi_app (A B : List Rt) (p : Pf) : hi (A ++ B) p = hi A p ++ hi B p := by unfold hi; rw [List.filter_append]
theorem so_inv {p : Pf} (hp : Tb.ok p) (hop : Int) : ∀ (n : Nat) (L : List Rt), L.length = n → Wf L → soF L p hop = (lo L p ++ (if hi L p = [] then [] else mid p hop) ++ hi L p, decide (hop = -2 ∨ hi L p ≠ []))
  | 0, L, h, _ => by
    rw [List.length_eq_zero_iff.1 h]
    show (([] : List Rt), hop == -2) = _
    simp only [lo, hi, List.filter_nil, if_true, List.append_nil, ne_eq, not_true, or_false]
    rfl
  | n + 1, L, h, hw => by
    obtain ⟨T, r, rfl⟩ : ∃ T r, L = T ++ [r] := ⟨L.dropLast, L.getLast (by intro e; rw [e] at h; cases h), (List.dropLast_concat_getLast _).symm⟩
    obtain ⟨h1, h2⟩ := wf_app hw
    have hr := (hw.1 r (List.mem_append_right _ (List.mem_singleton.2 rfl))).1
    have ih := so_inv hp hop n T (by simpa using h) h1
    rw [soF_app, ih, lo_app, hi_app]
    unfold stS
    by_cases e : r.p = p
    · have e1 : lo [r] p = [] := by unfold lo; rw [List.filter_cons_of_neg (by simp [e, less_irrefl])]; rfl
      have e2 : hi [r] p = [] := by unfold hi; rw [List.filter_cons_of_neg (by simp [e, less_irrefl])]; rfl
      rw [if_pos e, e1, e2, List.append_nil, List.append_nil]
    · rw [if_neg e]
      by_cases l1 : less p r.p
      · have e1 : lo [r] p = [] := by unfold lo; rw [List.filter_cons_of_neg (by simpa using less_asymm l1)]; rfl
        have e2 : hi [r] p = [r] := by unfold hi; rw [List.filter_cons_of_pos (by simpa using l1)]; rfl
        rw [e1, e2, List.append_nil]
        by_cases hh : hi T p = []
        · by_cases h0 : hop = -2
          · simp [hh, h0, mid]
          · simp [hh, h0, mid, l1]
        · simp [hh]
      · have l2 : less r.p p := by
          by_cases k : less r.p p
          · exact k
          · exact absurd (less_total hr hp k l1) e
        have e1 : lo [r] p = [r] := by unfold lo; rw [List.filter_cons_of_pos (by simpa using l2)]; rfl
        have e2 : hi [r] p = [] := by unfold hi; rw [List.filter_cons_of_neg (by simpa using l1)]; rfl
        have e3 : hi T p = [] := by
          unfold hi
          rw [List.filter_eq_nil_iff]
          intro s hs
          simpa using less_asymm (less_trans (h2 s hs) l2)
        rw [e1, e2, e3]
        simp [l1]
theorem so_end {L : List Rt} (h : Wf L) {p : Pf} (hp : Tb.ok p) (hop : Int) : soEnd (soF L p hop) p hop = setOk L p hop := by
  rw [so_inv hp hop L.length L rfl h]
  unfold soEnd setOk
  by_cases h0 : hop = -2
  · simp [h0, mid]
  · by_cases hh : hi L p = []
    · simp [hh, h0, mid]
    · simp [hh]
end Go.Proofs.Ytdkkeaegmmepfaa.Tb
/- Which route an address goes by. -/
namespace Go.Proofs.Ytdkkeaegmmepfaa.Tb

theorem look_keep {a : Int} : ∀ (L : List Rt) (h : Int), (∀ r ∈ L, ¬ has r.p a) → L.foldl (lookF a) h = h
  | [], _, _ => rfl
  | r :: L, h, k => by
    rw [List.foldl_cons]
    have : lookF a h r = h := by unfold lookF; rw [if_neg (k r (List.mem_cons_self ..))]
    rw [this]
    exact look_keep L h (fun s hs => k s (List.mem_cons_of_mem _ hs))
theorem look_none {L : List Rt} {a : Int} (h : ∀ r ∈ L, ¬ has r.p a) : look L a = -1 := look_keep L (-1) h
theorem look_split {A B : List Rt} {r : Rt} {a : Int} (hr : has r.p a) (hB : ∀ s ∈ B, ¬ has s.p a) : look (A ++ r :: B) a = r.hop := by
  unfold look
  rw [List.foldl_append, List.foldl_cons]
  have : lookF a (A.foldl (lookF a) (-1)) r = r.hop := by unfold lookF; rw [if_pos hr]
  rw [this]
  exact look_keep B _ hB
theorem split_at {L : List Rt} {i : Nat} (hi : i < L.length) : L = L.take i ++ nth L i :: L.drop (i + 1) := by
  rw [nth_eq hi, ← List.drop_eq_getElem_cons hi, List.take_append_drop]
theorem look_last {L : List Rt} {a : Int} {i : Nat} (hi : i < L.length) (hr : has (nth L i).p a) (h : ∀ k, i < k → k < L.length → ¬ has (nth L k).p a) : look L a = (nth L i).hop := by
  conv => lhs; rw [split_at hi]
  refine look_split hr (fun s hs => ?_)
  obtain ⟨t, ht, rfl⟩ := List.getElem_of_mem hs
  rw [List.length_drop] at ht
  have := h (i + 1 + t) (by omega) (by omega)
  rw [nth_eq (by omega)] at this
  simpa using this
/-- The longest counts. -/
theorem look_longest {L : List Rt} (hw : Wf L) {a : Int} {i : Nat} (hi : i < L.length) (hr : has (nth L i).p a) (h : ∀ k, k < L.length → has (nth L k).p a → (nth L k).p.len ≤ (nth L i).p.len) : look L a = (nth L i).hop := by
  refine look_last hi hr (fun k h1 h2 h3 => ?_)
  have hl : less (nth L i).p (nth L k).p := by
    rw [nth_eq hi, nth_eq h2]
    exact List.pairwise_iff_getElem.1 hw.2 i k hi h2 h1
  have := nested hl hr h3
  have := h k h2 h3
  omega
theorem none_of {L : List Rt} {a : Int} (h : ∀ k, k < L.length → ¬ has (nth L k).p a) : look L a = -1 :=
  look_none (fun r hr => by
    obtain ⟨t, ht, rfl⟩ := List.getElem_of_mem hr
    have := h t ht
    rwa [nth_eq ht] at this)
end Go.Proofs.Ytdkkeaegmmepfaa.Tb
/- A route set, and what it says of addresses; set and taken away. -/
namespace Go.Proofs.Ytdkkeaegmmepfaa.Tb

theorem filter_mid (P : Rt → Bool) (p : Pf) (hop : Int) (h : ∀ x : Int, P ⟨p, x⟩ = false) : (mid p hop).filter P = [] := by
  unfold mid
  split
  · rfl
  · rw [List.filter_cons_of_neg (by simp [h])]; rfl
theorem lo_set (L : List Rt) (p : Pf) (hop : Int) : lo (setOk L p hop) p = lo L p := by
  unfold setOk
  rw [lo_app, lo_app]
  have e1 : lo (lo L p) p = lo L p := by
    unfold lo
    rw [List.filter_filter]
    congr 1
    funext r
    simp
  have e2 : lo (mid p hop) p = [] := filter_mid _ _ _ (fun x => by simpa using less_irrefl p)
  have e3 : lo (hi L p) p = [] := by
    unfold lo
    rw [List.filter_eq_nil_iff]
    intro r hr
    simpa using less_asymm (hi_mem hr).2
  rw [e1, e2, e3, List.append_nil, List.append_nil]
theorem hi_set (L : List Rt) (p : Pf) (hop : Int) : hi (setOk L p hop) p = hi L p := by
  unfold setOk
  rw [hi_app, hi_app]
  have e1 : hi (hi L p) p = hi L p := by
    unfold hi
    rw [List.filter_filter]
    congr 1
    funext r
    simp
  have e2 : hi (mid p hop) p = [] := filter_mid _ _ _ (fun x => by simpa using less_irrefl p)
  have e3 : hi (lo L p) p = [] := by
    unfold hi
    rw [List.filter_eq_nil_iff]
    intro r hr
    simpa using less_asymm (lo_mem hr).2
  rw [e1, e2, e3, List.nil_append, List.nil_append]
theorem get_set {L : List Rt} {p : Pf} (hp : Tb.ok p) (hop : Int) : get (setOk L p hop) p = hop := by
  have h1 : ∀ r ∈ lo L p, r.p ≠ p := fun r hr e => less_irrefl p (by have := (lo_mem hr).2; rwa [e] at this)
  have h2 : ∀ r ∈ hi L p, r.p ≠ p := fun r hr e => less_irrefl p (by have := (hi_mem hr).2; rwa [e] at this)
  unfold setOk mid
  by_cases e : hop = -2
  · rw [if_pos e, List.append_nil, e]
    refine get_none (fun r hr => ?_)
    rcases List.mem_append.1 hr with hr | hr
    · exact h1 r hr
    · exact h2 r hr
  · rw [if_neg e, List.append_assoc]
    exact get_hit hp h1
theorem set_back {L : List Rt} (hw : Wf L) (hl : L.length ≤ 40) {p : Pf} {hop : Int} (hc : setC L p hop = 0) :
    get (setL L p hop) p = hop ∧ setC (setL L p hop) p (get L p) = 0 ∧ setL (setL L p hop) p (get L p) = L := by
  obtain ⟨hp, h2, h3, h4⟩ := setC_0 hc
  have e1 : setL L p hop = setOk L p hop := by unfold setL; rw [if_pos hc]
  rw [e1]
  have hg := get_set (L := L) hp hop
  have hgo : get L p = -2 ∨ hopOK (get L p) := by
    rcases split_wf hw hp with ⟨g, _, _⟩ | ⟨_, g, _⟩
    · exact .inl g
    · exact .inr g
  have hL : setOk L p (get L p) = L := by
    unfold setOk mid
    rcases split_wf hw hp with ⟨g, e, _⟩ | ⟨g, _, e⟩
    · rw [if_pos g, List.append_nil]; exact e.symm
    · rw [if_neg g, List.append_assoc]; exact e.symm
  have hlen : hop = -2 → get L p ≠ -2 → (setOk L p hop).length < 40 := by
    intro k1 k2
    rcases split_wf hw hp with ⟨g, _, _⟩ | ⟨_, _, e⟩
    · exact absurd g k2
    · have := congrArg List.length e
      rw [List.length_append, List.length_cons] at this
      unfold setOk mid
      rw [if_pos k1, List.append_nil, List.length_append]
      omega
  have hc2 : setC (setOk L p hop) p (get L p) = 0 := by
    unfold setC
    rw [hg, if_neg, if_neg, if_neg]
    · rintro ⟨k1, k2⟩
      by_cases k3 : get L p = -2
      · exact h3 ⟨k3, k1⟩
      · have := hlen k1 k3
        omega
    · rintro ⟨k1, k2⟩
      exact h3 ⟨k2, k1⟩
    · rintro (k | ⟨k1, k2⟩)
      · exact k hp
      · rcases hgo with k3 | k3
        · exact k1 k3
        · exact k2 k3
  refine ⟨hg, hc2, ?_⟩
  unfold setL
  rw [if_pos hc2]
  conv => rhs; rw [← hL]
  unfold setOk
  have a1 := lo_set L p hop
  have a2 := hi_set L p hop
  unfold setOk at a1 a2
  rw [a1, a2]

theorem look_any {a : Int} : ∀ (B : List Rt) (h k : Int), (∃ s ∈ B, has s.p a) → B.foldl (lookF a) h = B.foldl (lookF a) k
  | [], _, _, e => by obtain ⟨s, hs, _⟩ := e; cases hs
  | r :: B, h, k, e => by
    rw [List.foldl_cons, List.foldl_cons]
    by_cases hr : has r.p a
    · have e1 : ∀ x, lookF a x r = r.hop := fun x => by unfold lookF; rw [if_pos hr]
      rw [e1, e1]
    · have e1 : ∀ x, lookF a x r = x := fun x => by unfold lookF; rw [if_neg hr]
      rw [e1, e1]
      refine look_any B h k ?_
      obtain ⟨s, hs, h1⟩ := e
      rcases List.mem_cons.1 hs with rfl | hs
      · exact absurd h1 hr
      · exact ⟨s, hs, h1⟩
theorem look_mid {A M B : List Rt} {a : Int} (h : (∀ s ∈ M, ¬ has s.p a) ∨ ∃ s ∈ B, has s.p a) : look (A ++ M ++ B) a = look (A ++ B) a := by
  unfold look
  rw [List.foldl_append, List.foldl_append, List.foldl_append]
  rcases h with h | h
  · rw [look_keep M _ h]
  · exact look_any B _ _ h
theorem as_mid {L : List Rt} (hw : Wf L) {p : Pf} (hp : Tb.ok p) : ∃ M, L = lo L p ++ M ++ hi L p ∧ ∀ s ∈ M, s.p = p := by
  rcases split_wf hw hp with ⟨_, e, _⟩ | ⟨_, _, e⟩
  · exact ⟨[], by rw [List.append_nil]; exact e, fun s hs => by cases hs⟩
  · exact ⟨[⟨p, get L p⟩], by rw [List.append_assoc]; exact e, fun s hs => by rw [List.mem_singleton.1 hs]⟩
/-- Whether a longer route than the prefix has the address. -/
def longer (L : List Rt) (p : Pf) (a : Int) : Prop := ∃ k, k < L.length ∧ has (nth L k).p a ∧ p.len < (nth L k).p.len
theorem set_apart {L : List Rt} (hw : Wf L) {p : Pf} (hp : Tb.ok p) (hop : Int) {a : Int} (h : ¬ has p a ∨ longer L p a) : look (setOk L p hop) a = look L a := by
  obtain ⟨M, e, hM⟩ := as_mid hw hp
  have key : (¬ has p a) ∨ ∃ s ∈ hi L p, has s.p a := by
    rcases h with h | ⟨k, hk, h1, h2⟩
    · exact .inl h
    · by_cases hpa : has p a
      · refine .inr ⟨nth L k, ?_, h1⟩
        unfold hi
        rw [List.mem_filter]
        refine ⟨nth_mem hk, ?_⟩
        by_cases l1 : less p (nth L k).p
        · simpa using l1
        · exfalso
          by_cases l2 : less (nth L k).p p
          · have := nested l2 h1 hpa
            omega
          · have := less_total hp (hw.ok (nth_mem hk)) l1 l2
            rw [← this] at h2
            omega
      · exact .inl hpa
  have e2 : look (setOk L p hop) a = look (lo L p ++ hi L p) a := by
    unfold setOk
    refine look_mid ?_
    rcases key with k | k
    · exact .inl (fun s hs => by rw [(mid_mem hs).1]; exact k)
    · exact .inr k
  have e3 : look L a = look (lo L p ++ hi L p) a := by
    conv => lhs; rw [e]
    refine look_mid ?_
    rcases key with k | k
    · exact .inl (fun s hs => by rw [hM s hs]; exact k)
    · exact .inr k
  rw [e2, e3]
theorem set_says {L : List Rt} {p : Pf} {hop : Int} (h2 : hop ≠ -2) {a : Int} (h : has p a) (hn : ¬ longer L p a) : look (setOk L p hop) a = hop := by
  unfold setOk mid
  rw [if_neg h2, List.append_assoc]
  refine look_split h (fun s hs hsa => hn ?_)
  obtain ⟨h3, h4⟩ := hi_mem hs
  obtain ⟨k, hk, rfl⟩ := List.getElem_of_mem h3
  exact ⟨k, hk, by rw [nth_eq hk]; exact hsa, by rw [nth_eq hk]; exact nested h4 h hsa⟩
end Go.Proofs.Ytdkkeaegmmepfaa.Tb
