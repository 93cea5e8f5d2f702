/- Prefixes and tables of routes: what the functions compute, in plain words of lists; no program. -/
import Derived.Test.YteedndapbfihaaaGreatB1
namespace Go.Proofs.YteedndapbfihaaaGreat.Tb

/-- A prefix. -/
structure Pf where
  len : Int
  bits : Int
theorem pf_eq {p q : Pf} (h1 : p.len = q.len) (h2 : p.bits = q.bits) : p = q := by cases p; cases q; simp_all
instance : DecidableEq Pf := fun p q => decidable_of_iff (p.len = q.len ∧ p.bits = q.bits) ⟨fun h => pf_eq h.1 h.2, fun h => by rw [h]; exact ⟨rfl, rfl⟩⟩
/-- A route. -/
structure Rt where
  p : Pf
  hop : Int
instance : DecidableEq Rt := fun r s => decidable_of_iff (r.p = s.p ∧ r.hop = s.hop) ⟨fun h => by cases r; cases s; simp_all, fun h => by rw [h]; exact ⟨rfl, rfl⟩⟩
instance : Inhabited Rt := ⟨⟨⟨0, 0⟩, 0⟩⟩

def ok (p : Pf) : Prop := 0 ≤ p.len ∧ p.len ≤ 8 ∧ 0 ≤ p.bits ∧ p.bits < 2 ^ p.len.toNat
instance (p : Pf) : Decidable (ok p) := by unfold ok; infer_instance
def hopOK (h : Int) : Prop := -1 ≤ h ∧ h < 6
instance (h : Int) : Decidable (hopOK h) := by unfold hopOK; infer_instance
/-- How many addresses. -/
def span (p : Pf) : Int := 2 ^ (8 - p.len).toNat
def fst (p : Pf) : Int := if ok p then p.bits * span p else -1
def lst (p : Pf) : Int := if ok p then p.bits * span p + span p - 1 else -1
def has (p : Pf) (a : Int) : Prop := ok p ∧ fst p ≤ a ∧ a ≤ lst p
instance (p : Pf) (a : Int) : Decidable (has p a) := by unfold has; infer_instance
def less (p q : Pf) : Prop := fst p < fst q ∨ (fst p = fst q ∧ p.len < q.len)
instance (p q : Pf) : Decidable (less p q) := by unfold less; infer_instance

/-- The lengths that a prefix may have, with what goes by them. -/
theorem ok_cases {p : Pf} (h : ok p) : (p.len = 0 ∧ span p = 256 ∧ p.bits < 1) ∨ (p.len = 1 ∧ span p = 128 ∧ p.bits < 2) ∨ (p.len = 2 ∧ span p = 64 ∧ p.bits < 4) ∨ (p.len = 3 ∧ span p = 32 ∧ p.bits < 8) ∨
    (p.len = 4 ∧ span p = 16 ∧ p.bits < 16) ∨ (p.len = 5 ∧ span p = 8 ∧ p.bits < 32) ∨ (p.len = 6 ∧ span p = 4 ∧ p.bits < 64) ∨ (p.len = 7 ∧ span p = 2 ∧ p.bits < 128) ∨ (p.len = 8 ∧ span p = 1 ∧ p.bits < 256) := by
  obtain ⟨l, b⟩ := p
  obtain ⟨h1, h2, h3, h4⟩ := h
  unfold span
  dsimp only at h1 h2 h3 h4 ⊢
  have : l = 0 ∨ l = 1 ∨ l = 2 ∨ l = 3 ∨ l = 4 ∨ l = 5 ∨ l = 6 ∨ l = 7 ∨ l = 8 := by omega
  rcases this with rfl | rfl | rfl | rfl | rfl | rfl | rfl | rfl | rfl
  · exact .inl ⟨rfl, rfl, h4⟩
  · exact .inr (.inl ⟨rfl, rfl, h4⟩)
  · exact .inr (.inr (.inl ⟨rfl, rfl, h4⟩))
  · exact .inr (.inr (.inr (.inl ⟨rfl, rfl, h4⟩)))
  · exact .inr (.inr (.inr (.inr (.inl ⟨rfl, rfl, h4⟩))))
  · exact .inr (.inr (.inr (.inr (.inr (.inl ⟨rfl, rfl, h4⟩)))))
  · exact .inr (.inr (.inr (.inr (.inr (.inr (.inl ⟨rfl, rfl, h4⟩))))))
  · exact .inr (.inr (.inr (.inr (.inr (.inr (.inr (.inl ⟨rfl, rfl, h4⟩)))))))
  · exact .inr (.inr (.inr (.inr (.inr (.inr (.inr (.inr ⟨rfl, rfl, h4⟩)))))))
theorem fst_ok {p : Pf} (h : ok p) : fst p = p.bits * span p := by unfold fst; rw [if_pos h]
theorem lst_ok {p : Pf} (h : ok p) : lst p = p.bits * span p + span p - 1 := by unfold lst; rw [if_pos h]
theorem fst_no {p : Pf} (h : ¬ ok p) : fst p = -1 := by unfold fst; rw [if_neg h]
theorem lst_no {p : Pf} (h : ¬ ok p) : lst p = -1 := by unfold lst; rw [if_neg h]
theorem fst_ge {p : Pf} (h : ok p) : 0 ≤ fst p := by
  rw [fst_ok h]
  have h3 := h.2.2.1
  rcases ok_cases h with h | h | h | h | h | h | h | h | h <;> (obtain ⟨_, e, _⟩ := h; rw [e]; omega)
theorem fst_le {p : Pf} (h : ok p) : fst p ≤ lst p ∧ lst p < 256 := by
  rw [fst_ok h, lst_ok h]
  have h3 := h.2.2.1
  rcases ok_cases h with h | h | h | h | h | h | h | h | h <;> (obtain ⟨_, e, _⟩ := h; rw [e]; omega)
theorem has_range {p : Pf} {a : Int} (h : has p a) : 0 ≤ a ∧ a < 256 := by
  have := fst_ge h.1; have := fst_le h.1; have := h.2; omega
/-- Which addresses: those that, without their last bits, are the bits. -/
theorem has_div {p : Pf} {a : Int} (h : ok p) : has p a ↔ a / span p = p.bits := by
  unfold has
  rw [fst_ok h, lst_ok h]
  have h3 := h.2.2.1
  have : (p.bits * span p ≤ a ∧ a ≤ p.bits * span p + span p - 1) ↔ a / span p = p.bits := by
    rcases ok_cases h with h | h | h | h | h | h | h | h | h <;> (obtain ⟨_, e, _⟩ := h; rw [e]; omega)
  rw [← this]
  exact ⟨fun h => h.2, fun h' => ⟨h, h'⟩⟩
theorem has_first {p : Pf} (h : ok p) : has p (fst p) := ⟨h, Int.le_refl _, (fst_le h).1⟩
theorem less_irrefl (p : Pf) : ¬ less p p := by unfold less; omega
theorem less_trans {p q r : Pf} (h1 : less p q) (h2 : less q r) : less p r := by unfold less at *; omega
theorem less_asymm {p q : Pf} (h1 : less p q) : ¬ less q p := by unfold less at *; omega
theorem less_no {p q : Pf} (h : ¬ ok p) (hq : ok q) : less p q := by
  unfold less
  rw [fst_no h]
  have := fst_ge hq
  omega
theorem less_total {p q : Pf} (hp : ok p) (hq : ok q) (h1 : ¬ less p q) (h2 : ¬ less q p) : p = q := by
  unfold less at h1 h2
  have e1 : fst p = fst q := by omega
  have e2 : p.len = q.len := by omega
  refine pf_eq e2 ?_
  rw [fst_ok hp, fst_ok hq] at e1
  have e3 : span p = span q := by unfold span; rw [e2]
  rw [← e3] at e1
  rcases ok_cases hp with h | h | h | h | h | h | h | h | h <;> (obtain ⟨_, e, _⟩ := h; rw [e] at e1; omega)
/-- Of two prefixes that have an address the one that stands behind is longer. -/
theorem nested {p q : Pf} {a : Int} (h : less p q) (hp : has p a) (hq : has q a) : p.len < q.len := by
  unfold less at h
  rcases h with h | h
  · have h1 := hp.2; have h2 := hq.2
    rw [fst_ok hp.1, lst_ok hp.1] at h1
    rw [fst_ok hq.1, lst_ok hq.1] at h2
    rw [fst_ok hp.1, fst_ok hq.1] at h
    rcases ok_cases hp.1 with k | k | k | k | k | k | k | k | k <;> (obtain ⟨l1, e1, _⟩ := k; rw [e1] at h h1; rcases ok_cases hq.1 with k | k | k | k | k | k | k | k | k <;> (obtain ⟨l2, e2, _⟩ := k; rw [e2] at h h2; omega))
  · exact h.2

/-- Routes as they may stand in a table. -/
def Wf (L : List Rt) : Prop := (∀ r ∈ L, ok r.p ∧ hopOK r.hop) ∧ L.Pairwise (fun r s => less r.p s.p)
theorem Wf.nil : Wf [] := ⟨fun _ h => (by cases h), List.Pairwise.nil⟩
theorem Wf.ok {L : List Rt} (h : Wf L) {r : Rt} (hr : r ∈ L) : Tb.ok r.p := (h.1 r hr).1

def lo (L : List Rt) (p : Pf) : List Rt := L.filter fun r => decide (less r.p p)
def hi (L : List Rt) (p : Pf) : List Rt := L.filter fun r => decide (less p r.p)
def mid (p : Pf) (hop : Int) : List Rt := if hop = -2 then [] else [⟨p, hop⟩]
/-- Where the route of a prefix goes. -/
def get : List Rt → Pf → Int
  | [], _ => -2
  | r :: l, p => if r.p = p ∧ Tb.ok p then r.hop else get l p
def setOk (L : List Rt) (p : Pf) (hop : Int) : List Rt := lo L p ++ mid p hop ++ hi L p
def setC (L : List Rt) (p : Pf) (hop : Int) : Int :=
  if ¬ Tb.ok p ∨ (hop ≠ -2 ∧ ¬ hopOK hop) then 1 else if get L p = -2 ∧ hop = -2 then 6 else if get L p = -2 ∧ 40 ≤ L.length then 9 else 0
def setL (L : List Rt) (p : Pf) (hop : Int) : List Rt := if setC L p hop = 0 then setOk L p hop else L

theorem get_no {L : List Rt} {p : Pf} (h : ¬ Tb.ok p) : get L p = -2 := by
  induction L with
  | nil => rfl
  | cons r l ih => unfold get; rw [if_neg (fun k => h k.2)]; exact ih
theorem get_none {L : List Rt} {p : Pf} (h : ∀ r ∈ L, r.p ≠ p) : get L p = -2 := by
  induction L with
  | nil => rfl
  | cons r l ih => unfold get; rw [if_neg (fun k => h r (List.mem_cons_self ..) k.1)]; exact ih (fun s hs => h s (List.mem_cons_of_mem _ hs))
theorem get_skip {A B : List Rt} {p : Pf} (h : ∀ r ∈ A, ¬ (r.p = p ∧ Tb.ok p)) : get (A ++ B) p = get B p := by
  induction A with
  | nil => rfl
  | cons r l ih =>
    rw [List.cons_append]
    show (if r.p = p ∧ Tb.ok p then r.hop else get (l ++ B) p) = _
    rw [if_neg (h r (List.mem_cons_self ..))]
    exact ih (fun s hs => h s (List.mem_cons_of_mem _ hs))
/-- Of routes that are well, a prefix: what is ahead, itself, what is behind. -/
theorem split_wf {L : List Rt} (h : Wf L) {p : Pf} (hp : Tb.ok p) : (get L p = -2 ∧ L = lo L p ++ hi L p ∧ ∀ r ∈ L, r.p ≠ p) ∨ (get L p ≠ -2 ∧ hopOK (get L p) ∧ L = lo L p ++ ⟨p, get L p⟩ :: hi L p) := by
  induction L with
  | nil => exact .inl ⟨rfl, rfl, fun _ h => by cases h⟩
  | cons r l ih =>
    have hl : Wf l := ⟨fun s hs => h.1 s (List.mem_cons_of_mem _ hs), (List.pairwise_cons.1 h.2).2⟩
    have hb := (List.pairwise_cons.1 h.2).1
    obtain ⟨hr1, hr2⟩ := h.1 r (List.mem_cons_self ..)
    by_cases h1 : less r.p p
    · have e1 : lo (r :: l) p = r :: lo l p := by unfold lo; rw [List.filter_cons_of_pos (by simpa using h1)]
      have e2 : hi (r :: l) p = hi l p := by unfold hi; rw [List.filter_cons_of_neg (by simpa using less_asymm h1)]
      have hne : r.p ≠ p := fun e => less_irrefl p (e ▸ h1)
      have e3 : get (r :: l) p = get l p := by show (if r.p = p ∧ Tb.ok p then r.hop else get l p) = _; rw [if_neg (fun k => hne k.1)]
      rw [e1, e2, e3]
      rcases ih hl with ⟨g1, g2, g3⟩ | ⟨g1, g2, g3⟩
      · refine .inl ⟨g1, by rw [List.cons_append, ← g2], fun s hs => ?_⟩
        rcases List.mem_cons.1 hs with rfl | hs
        · exact hne
        · exact g3 s hs
      · exact .inr ⟨g1, g2, by rw [List.cons_append, ← g3]⟩
    · have hlo : ∀ s ∈ l, ¬ less s.p p := fun s hs k => h1 (less_trans (hb s hs) k)
      have e1 : lo (r :: l) p = [] := by
        unfold lo
        rw [List.filter_eq_nil_iff]
        intro s hs
        rcases List.mem_cons.1 hs with rfl | hs
        · simpa using h1
        · simpa using hlo s hs
      by_cases h2 : less p r.p
      · have hhi : ∀ s ∈ r :: l, less p s.p := fun s hs => by
          rcases List.mem_cons.1 hs with rfl | hs
          · exact h2
          · exact less_trans h2 (hb s hs)
        have e2 : hi (r :: l) p = r :: l := by
          unfold hi
          rw [List.filter_eq_self]
          intro s hs
          simpa using hhi s hs
        have hne : ∀ s ∈ r :: l, s.p ≠ p := fun s hs e => less_irrefl p (by have := hhi s hs; rwa [e] at this)
        rw [e1, e2]
        exact .inl ⟨get_none hne, rfl, hne⟩
      · have he : r.p = p := less_total hr1 hp h1 h2
        have hhi : ∀ s ∈ l, less p s.p := fun s hs => he ▸ hb s hs
        have e2 : hi (r :: l) p = l := by
          unfold hi
          rw [List.filter_cons_of_neg (by simpa using h2), List.filter_eq_self]
          intro s hs
          simpa using hhi s hs
        have e3 : get (r :: l) p = r.hop := by show (if r.p = p ∧ Tb.ok p then r.hop else get l p) = _; rw [if_pos ⟨he, hp⟩]
        rw [e1, e2, e3]
        refine .inr ⟨?_, hr2, ?_⟩
        · unfold hopOK at hr2; omega
        · cases r; simp_all
theorem lo_le (L : List Rt) (p : Pf) : (lo L p).length ≤ L.length := List.length_filter_le _ _

theorem lo_mem {L : List Rt} {p : Pf} {r : Rt} (h : r ∈ lo L p) : r ∈ L ∧ less r.p p := by
  unfold lo at h; rw [List.mem_filter] at h; exact ⟨h.1, by simpa using h.2⟩
theorem hi_mem {L : List Rt} {p : Pf} {r : Rt} (h : r ∈ hi L p) : r ∈ L ∧ less p r.p := by
  unfold hi at h; rw [List.mem_filter] at h; exact ⟨h.1, by simpa using h.2⟩
theorem mid_mem {p : Pf} {h : Int} {r : Rt} (hr : r ∈ mid p h) : r = ⟨p, h⟩ ∧ h ≠ -2 := by
  unfold mid at hr
  split at hr
  · cases hr
  · rename_i h1; simp at hr; exact ⟨hr, h1⟩
theorem wf_set {L : List Rt} (h : Wf L) {p : Pf} {hop : Int} (hp : Tb.ok p) (hh : hop = -2 ∨ hopOK hop) : Wf (setOk L p hop) := by
  refine ⟨fun r hr => ?_, ?_⟩
  · unfold setOk at hr
    rcases List.mem_append.1 hr with hr | hr
    · rcases List.mem_append.1 hr with hr | hr
      · exact h.1 r (lo_mem hr).1
      · obtain ⟨rfl, h1⟩ := mid_mem hr
        exact ⟨hp, hh.resolve_left h1⟩
    · exact h.1 r (hi_mem hr).1
  · unfold setOk
    rw [List.pairwise_append, List.pairwise_append]
    refine ⟨⟨h.2.filter _, ?_, ?_⟩, h.2.filter _, ?_⟩
    · unfold mid; split
      · exact List.Pairwise.nil
      · simp
    · intro a ha b hb
      obtain ⟨rfl, _⟩ := mid_mem hb
      exact (lo_mem ha).2
    · intro a ha b hb
      rcases List.mem_append.1 ha with ha | ha
      · exact less_trans (lo_mem ha).2 (hi_mem hb).2
      · obtain ⟨rfl, _⟩ := mid_mem ha
        exact (hi_mem hb).2
theorem setC_0 {L : List Rt} {p : Pf} {hop : Int} (h : setC L p hop = 0) : Tb.ok p ∧ (hop = -2 ∨ hopOK hop) ∧ ¬ (get L p = -2 ∧ hop = -2) ∧ ¬ (get L p = -2 ∧ 40 ≤ L.length) := by
  unfold setC at h
  split at h
  · cases h
  · rename_i h1
    split at h
    · cases h
    · rename_i h2
      split at h
      · cases h
      · rename_i h3
        refine ⟨by simp at h1; exact h1.1, ?_, h2, h3⟩
        by_cases e : hop = -2
        · exact .inl e
        · refine .inr ?_
          simp at h1
          exact h1.2 e
theorem len_set {L : List Rt} (h : Wf L) {p : Pf} {hop : Int} (hl : L.length ≤ 40) (hc : setC L p hop = 0) : (setOk L p hop).length ≤ 40 := by
  obtain ⟨hp, _, h2, h3⟩ := setC_0 hc
  have hm : (mid p hop).length ≤ 1 := by unfold mid; split <;> simp
  unfold setOk
  rw [List.length_append, List.length_append]
  rcases split_wf h hp with ⟨g1, g2, _⟩ | ⟨g1, _, g2⟩
  · have := congrArg List.length g2
    rw [List.length_append] at this
    omega
  · have := congrArg List.length g2
    rw [List.length_append, List.length_cons] at this
    omega
theorem setL_ok {L : List Rt} (h : Wf L) (hl : L.length ≤ 40) (p : Pf) (hop : Int) : Wf (setL L p hop) ∧ (setL L p hop).length ≤ 40 := by
  unfold setL
  split
  · rename_i hc
    obtain ⟨hp, hh, _, _⟩ := setC_0 hc
    exact ⟨wf_set h hp hh, len_set h hl hc⟩
  · exact ⟨h, hl⟩

/-- Where an address goes: by the last route that has it. -/
def lookF (a : Int) (h : Int) (r : Rt) : Int := if has r.p a then r.hop else h
def look (L : List Rt) (a : Int) : Int := L.foldl (lookF a) (-1)
/-- .. by the longest one. -/
def lookG (a : Int) (s : Int × Int) (r : Rt) : Int × Int := if has r.p a ∧ s.2 < r.p.len then (r.hop, r.p.len) else s
def lookR (L : List Rt) (a : Int) : Int × Int := L.foldl (lookG a) (-1, -1)
theorem look_app (L : List Rt) (r : Rt) (a : Int) : look (L ++ [r]) a = lookF a (look L a) r := by unfold look; rw [List.foldl_append]; rfl
theorem lookR_app (L : List Rt) (r : Rt) (a : Int) : lookR (L ++ [r]) a = lookG a (lookR L a) r := by unfold lookR; rw [List.foldl_append]; rfl
theorem wf_app {L : List Rt} {r : Rt} (h : Wf (L ++ [r])) : Wf L ∧ ∀ s ∈ L, less s.p r.p := by
  refine ⟨⟨fun s hs => h.1 s (List.mem_append_left _ hs), (List.pairwise_append.1 h.2).1⟩, fun s hs => (List.pairwise_append.1 h.2).2.2 s hs r (List.mem_singleton.2 rfl)⟩
theorem look_both {L : List Rt} (h : Wf L) (a : Int) : (lookR L a).1 = look L a ∧ ((lookR L a).2 = -1 ∨ ∃ s ∈ L, has s.p a ∧ (lookR L a).2 = s.p.len) := by
  revert h
  generalize hn : L.length = n
  intro h
  induction n generalizing L with
  | zero =>
    rw [List.length_eq_zero_iff.1 hn]
    exact ⟨rfl, .inl rfl⟩
  | succ n ih =>
    obtain ⟨T, r, rfl⟩ : ∃ T r, L = T ++ [r] := ⟨L.dropLast, L.getLast (by intro e; rw [e] at hn; cases hn), (List.dropLast_concat_getLast _).symm⟩
    obtain ⟨h1, h2⟩ := wf_app h
    obtain ⟨i1, i2⟩ := ih (by simpa using hn) h1
    have hr := (h.1 r (List.mem_append_right _ (List.mem_singleton.2 rfl))).1
    rw [look_app, lookR_app]
    unfold lookG lookF
    by_cases hh : has r.p a
    · have hlt : (lookR T a).2 < r.p.len := by
        rcases i2 with e | ⟨s, hs, h3, e⟩
        · rw [e]; have := hr.1; omega
        · rw [e]; exact nested (h2 s hs) h3 hh
      rw [if_pos ⟨hh, hlt⟩, if_pos hh]
      exact ⟨rfl, .inr ⟨r, List.mem_append_right _ (List.mem_singleton.2 rfl), hh, rfl⟩⟩
    · rw [if_neg (fun k => hh k.1), if_neg hh]
      refine ⟨i1, ?_⟩
      rcases i2 with e | ⟨s, hs, h3, e⟩
      · exact .inl e
      · exact .inr ⟨s, List.mem_append_left _ hs, h3, e⟩

/-- The first fault in a row. -/
def fF (f : Nat → Int) (k : Nat) : Nat → Int
  | 0 => 0
  | n + 1 => if f k ≠ 0 then f k else fF f (k + 1) n
theorem fF_hit {f : Nat → Int} : ∀ (n k m : Nat), k ≤ m → m < k + n → (∀ j, k ≤ j → j < m → f j = 0) → f m ≠ 0 → fF f k n = f m
  | 0, _, _, h1, h2, _, _ => by omega
  | n + 1, k, m, h1, h2, h3, h4 => by
    unfold fF
    by_cases e : k = m
    · subst e; rw [if_pos h4]
    · rw [if_neg (by rw [h3 k (Nat.le_refl _) (by omega)]; simp)]
      exact fF_hit n (k + 1) m (by omega) (by omega) (fun j h5 h6 => h3 j (by omega) h6) h4
theorem fF_zero {f : Nat → Int} : ∀ (n k : Nat), (∀ j, k ≤ j → j < k + n → f j = 0) → fF f k n = 0
  | 0, _, _ => rfl
  | n + 1, k, h => by
    unfold fF
    rw [if_neg (by rw [h k (Nat.le_refl _) (by omega)]; simp)]
    exact fF_zero n (k + 1) (fun j h1 h2 => h j (by omega) (by omega))
def nth (L : List Rt) (k : Nat) : Rt := L.getD k default
def faultAt (L : List Rt) (k : Nat) : Int :=
  if ¬ Tb.ok (nth L k).p ∨ ¬ hopOK (nth L k).hop then 1 else if 0 < k ∧ (nth L (k - 1)).p = (nth L k).p then 5 else if 0 < k ∧ ¬ less (nth L (k - 1)).p (nth L k).p then 4 else 0
def chk (L : List Rt) : Int := if 40 < L.length then 3 else fF (faultAt L) 0 L.length
theorem nth_eq {L : List Rt} {k : Nat} (h : k < L.length) : nth L k = L[k] := by unfold nth; simp [List.getD_eq_getElem?_getD, h]
theorem nth_mem {L : List Rt} {k : Nat} (h : k < L.length) : nth L k ∈ L := by rw [nth_eq h]; exact List.getElem_mem _
theorem take_succ {L : List Rt} {k : Nat} (h : k < L.length) : L.take (k + 1) = L.take k ++ [nth L k] := by rw [nth_eq h, List.take_succ_eq_append_getElem h]
theorem wf_faults {L : List Rt} (h : Wf L) {k : Nat} (hk : k < L.length) : faultAt L k = 0 := by
  have h1 := h.1 _ (nth_mem hk)
  unfold faultAt
  rw [if_neg (by simp [h1.1, h1.2])]
  by_cases h0 : 0 < k
  · have hl : less (nth L (k - 1)).p (nth L k).p := by
      rw [nth_eq hk, nth_eq (by omega : k - 1 < L.length)]
      exact List.pairwise_iff_getElem.1 h.2 (k - 1) k (by omega) hk (by omega)
    rw [if_neg (fun e => less_irrefl (nth L k).p (by have := hl; rwa [e.2] at this)), if_neg (by simp [hl])]
  · rw [if_neg (fun e => h0 e.1), if_neg (fun e => h0 e.1)]
theorem chk_of_wf {L : List Rt} (h : Wf L) : chk L = if 40 < L.length then 3 else 0 := by
  unfold chk
  split
  · rfl
  · exact fF_zero _ _ (fun j _ h2 => wf_faults h (by omega))

/-- Where all addresses go. -/
def allOf (L : List Rt) : List Int := (List.range 256).map fun (a : Nat) => look L a
theorem allOf_len (L : List Rt) : (allOf L).length = 256 := by simp [allOf]

end Go.Proofs.YteedndapbfihaaaGreat.Tb
/- Walks over package prefix: Check, First, Last, Has, Less. -/
namespace Go.Proofs.YteedndapbfihaaaGreat
open Go.RowKit Go.Deep

def IntFr (n : Int) (w : World) (e : Ending) (w' : World) : Prop := e = .returned (.int .i64 n) ∧ Fr NoB w w'
theorem box0 (w : World) (x y : Value) (t : TypeId) : (w.alloc (.cells #[x, y] t)).cell? ⟨w.heap.size, 0, none⟩ = some x := by simp
theorem box1 (w : World) (x y : Value) (t : TypeId) : (w.alloc (.cells #[x, y] t)).cell? ⟨w.heap.size, 1, none⟩ = some y := by simp
theorem wrap_pow {l : Int} (h1 : 0 ≤ l) (h2 : l ≤ 8) : wrap64 (2 ^ l.toNat) = 2 ^ l.toNat := by
  have h : ∃ m : Int, 2 ^ l.toNat = m ∧ 0 ≤ m ∧ m ≤ 256 := by
    have : l = 0 ∨ l = 1 ∨ l = 2 ∨ l = 3 ∨ l = 4 ∨ l = 5 ∨ l = 6 ∨ l = 7 ∨ l = 8 := by omega
    rcases this with rfl | rfl | rfl | rfl | rfl | rfl | rfl | rfl | rfl <;> exact ⟨_, rfl, by decide, by decide⟩
  obtain ⟨m, hm, h3, h4⟩ := h
  rw [hm]; unfold wrap64; omega
set_option maxHeartbeats 1000000 in
theorem Check_any (l b : Int) (w : World) :
    Calls Tryz.prog 55 #[.agg #[.int .i64 l, .int .i64 b]] w (BoolFr (decide (Tb.ok ⟨l, b⟩)) w) := by
  by_cases h1 : 0 ≤ l
  · have h1' : decide (0 ≤ l) = true := by simpa using h1
    by_cases h2 : l ≤ 8
    · have h2' : decide (l ≤ 8) = true := by simpa using h2
      by_cases h3 : 0 ≤ b
      · have h3' : decide (0 ≤ b) = true := by simpa using h3
        have hw := wrap_pow h1 h2
        have he : decide (Tb.ok ⟨l, b⟩) = decide (b < 2 ^ l.toNat) := by
          refine decide_eq_decide.2 ⟨fun h => h.2.2.2, fun h => ⟨h1, h2, h3, h⟩⟩
        rw [he, ← hw]
        clear hw he
        go_enter Tryz.func55, Tryz.ntmps55
        go_wp2
        go_quiet (fail)
        go_wp2
        go_ret
        exact ⟨rfl, ((Fr.refl _ _).alloc _).drewN _⟩
      · rw [decide_eq_false (show ¬ Tb.ok ⟨l, b⟩ from fun h => h3 h.2.2.1)]
        have h3' : decide (0 ≤ b) = false := by simpa using h3
        go_enter Tryz.func55, Tryz.ntmps55
        go_wp2
        go_quiet (fail)
        go_wp2
        go_ret
        exact ⟨rfl, ((Fr.refl _ _).alloc _).drewN _⟩
    · rw [decide_eq_false (show ¬ Tb.ok ⟨l, b⟩ from fun h => h2 h.2.1)]
      have h2' : decide (l ≤ 8) = false := by simpa using h2
      go_enter Tryz.func55, Tryz.ntmps55
      go_wp2
      go_quiet (fail)
      go_wp2
      go_ret
      exact ⟨rfl, ((Fr.refl _ _).alloc _).drewN _⟩
  · rw [decide_eq_false (show ¬ Tb.ok ⟨l, b⟩ from fun h => h1 h.1)]
    have h1' : decide (0 ≤ l) = false := by simpa using h1
    go_enter Tryz.func55, Tryz.ntmps55
    go_wp2
    go_quiet (fail)
    go_wp2
    go_ret
    exact ⟨rfl, ((Fr.refl _ _).alloc _).drewN _⟩
theorem fst_wrap {p : Tb.Pf} (h : Tb.ok p) : wrap64 (p.bits * 2 ^ (8 - p.len).toNat) = Tb.fst p := by
  rw [Tb.fst_ok h]
  have h3 := h.2.2.1
  show wrap64 (p.bits * Tb.span p) = _
  rcases Tb.ok_cases h with h | h | h | h | h | h | h | h | h <;> (obtain ⟨_, e, _⟩ := h; rw [e]; unfold wrap64; omega)
set_option maxHeartbeats 1000000 in
theorem First_any (l b : Int) (w : World) :
    Calls Tryz.prog 82 #[.agg #[.int .i64 l, .int .i64 b]] w (IntFr (Tb.fst ⟨l, b⟩) w) := by
  by_cases h : Tb.ok ⟨l, b⟩
  · have hd := decide_eq_true h
    rw [← fst_wrap h]
    obtain ⟨h1, h2, h3, h4⟩ := h
    dsimp only at h1 h2 h3 h4 ⊢
    have HD := Lib.hid hd; clear hd; have H4 := Lib.hid h4; clear h4
    go_enter Tryz.func82, Tryz.ntmps82
    go_wp2_with fail
    refine (Check_any l b _).mono ?_
    rw [HD.out]
    rintro e w1 ⟨rfl, hf⟩
    have c0 := cell_fr' hf (box0 w (.int .i64 l) (.int .i64 b) 53) (fun h => h)
    have c1 := cell_fr' hf (box1 w (.int .i64 l) (.int .i64 b) 53) (fun h => h)
    have hF := ((Fr.refl NoB w).alloc _).trans hf
    have HF := Lib.hid hF; clear hF
    clear hf
    go_wp2
    go_ret
    exact ⟨rfl, HF.out⟩
  · have hd := decide_eq_false h
    rw [Tb.fst_no h]
    have HD := Lib.hid hd; clear hd; have H := Lib.hid h; clear h
    go_enter Tryz.func82, Tryz.ntmps82
    go_wp2_with fail
    refine (Check_any l b _).mono ?_
    rw [HD.out]
    rintro e w1 ⟨rfl, hf⟩
    have hF := ((Fr.refl NoB w).alloc _).trans hf
    have HF := Lib.hid hF; clear hF
    clear hf
    go_wp2
    go_ret
    exact ⟨rfl, HF.out⟩
theorem span_in {p : Tb.Pf} (h : Tb.ok p) : 1 ≤ Tb.span p ∧ Tb.span p ≤ 256 := by
  rcases Tb.ok_cases h with h | h | h | h | h | h | h | h | h <;> (obtain ⟨_, e, _⟩ := h; rw [e]; omega)
theorem lst_wrap {p : Tb.Pf} (h : Tb.ok p) : IntKind.i64.wrap (IntKind.i64.wrap (Tb.fst p + IntKind.i64.wrap (2 ^ (8 - p.len).toNat)) - 1) = Tb.lst p := by
  have hs := span_in h
  have h0 := Tb.fst_ge h
  have h1 := Tb.fst_le h
  have e : Tb.lst p = Tb.fst p + Tb.span p - 1 := by rw [Tb.fst_ok h, Tb.lst_ok h]
  show IntKind.i64.wrap (IntKind.i64.wrap (Tb.fst p + IntKind.i64.wrap (Tb.span p)) - 1) = Tb.lst p
  rw [IntWalk.i64_in (Tb.span p) (by omega), IntWalk.i64_in (Tb.fst p + Tb.span p) (by omega), IntWalk.i64_in _ (by omega), e]
set_option maxHeartbeats 1000000 in
theorem Last_any (l b : Int) (w : World) :
    Calls Tryz.prog 83 #[.agg #[.int .i64 l, .int .i64 b]] w (IntFr (Tb.lst ⟨l, b⟩) w) := by
  by_cases h : Tb.ok ⟨l, b⟩
  · have hd := decide_eq_true h
    rw [← lst_wrap h]
    obtain ⟨h1, h2, h3, h4⟩ := h
    dsimp only at h1 h2 h3 h4 ⊢
    have HD := Lib.hid hd; clear hd; have H4 := Lib.hid h4; clear h4
    generalize hfst : Tb.fst ⟨l, b⟩ = f0
    have hsub := IntWalk.i64_in ((8 : Int) - l) (by omega)
    have hge : (0 : Int) ≤ 8 - l := by omega
    have hFst := Lib.hid hfst; clear hfst
    go_enter Tryz.func83, Tryz.ntmps83
    go_wp2_with fail
    refine (Check_any l b _).mono ?_
    rw [HD.out]
    rintro e w1 ⟨rfl, hf⟩
    have c0 := cell_fr' hf (box0 w (.int .i64 l) (.int .i64 b) 53) (fun h => h)
    have c1 := cell_fr' hf (box1 w (.int .i64 l) (.int .i64 b) 53) (fun h => h)
    have hF := ((Fr.refl NoB w).alloc _).trans hf
    have HF := Lib.hid hF; clear hF
    clear hf
    go_wp2
    go_region_held3 (fun W => W.cell? ⟨w.heap.size, 0, none⟩ = some (.int .i64 l) ∧ W.cell? ⟨w.heap.size, 1, none⟩ = some (.int .i64 b)) (first | exact ⟨s0, s1⟩ | exact ⟨c0, c1⟩)
      (first | (go_at_call 82; refine (First_any l b _).mono ?_; rintro e w2 ⟨rfl, hf⟩; rw [hFst.out]; have s0 := cell_fr' hf c0 (fun h => h); have s1 := cell_fr' hf c1 (fun h => h)))
    all_goals (
      go_wp2
      go_ret
      exact ⟨rfl, HF.out.drew.trans hf⟩)
  · have hd := decide_eq_false h
    rw [Tb.lst_no h]
    have HD := Lib.hid hd; clear hd; have H := Lib.hid h; clear h
    go_enter Tryz.func83, Tryz.ntmps83
    go_wp2_with fail
    refine (Check_any l b _).mono ?_
    rw [HD.out]
    rintro e w1 ⟨rfl, hf⟩
    have hF := ((Fr.refl NoB w).alloc _).trans hf
    have HF := Lib.hid hF; clear hF
    clear hf
    go_wp2
    go_ret
    exact ⟨rfl, HF.out⟩
set_option maxHeartbeats 1000000 in
theorem Has_any (l b a : Int) (w : World) :
    Calls Tryz.prog 51 #[.agg #[.int .i64 l, .int .i64 b], .int .i64 a] w (BoolFr (decide (Tb.has ⟨l, b⟩ a)) w) := by
  by_cases h : Tb.ok ⟨l, b⟩
  · have hd := decide_eq_true h
    by_cases h1 : Tb.fst ⟨l, b⟩ ≤ a
    · have he : decide (Tb.has ⟨l, b⟩ a) = decide (a ≤ Tb.lst ⟨l, b⟩) := decide_eq_decide.2 ⟨fun k => k.2.2, fun k => ⟨h, h1, k⟩⟩
      rw [he]
      have HD := Lib.hid hd; clear hd; have H := Lib.hid h; clear h
      clear he
      generalize hfst : Tb.fst ⟨l, b⟩ = f0 at *
      have hFst := Lib.hid hfst; clear hfst
      go_enter Tryz.func51, Tryz.ntmps51
      go_wp2_with fail
      refine (Check_any l b _).mono ?_
      rw [HD.out]
      rintro e w1 ⟨rfl, hf⟩
      have c0 := cell_fr' hf (box0 w (.int .i64 l) (.int .i64 b) 53) (fun h => h)
      have c1 := cell_fr' hf (box1 w (.int .i64 l) (.int .i64 b) 53) (fun h => h)
      have hF := ((Fr.refl NoB w).alloc _).trans hf
      have HF := Lib.hid hF; clear hF
      clear hf
      go_wp2_with fail
      refine (First_any l b _).mono ?_
      rw [hFst.out]
      rintro e w2 ⟨rfl, hf⟩
      have c0 := cell_fr' hf c0 (fun h => h)
      have c1 := cell_fr' hf c1 (fun h => h)
      have hF := HF.out.trans hf
      clear HF
      have HF := Lib.hid hF; clear hF
      clear hf
      go_wp2_with fail
      refine (Last_any l b _).mono ?_
      rintro e w3 ⟨rfl, hf⟩
      have hF := HF.out.trans hf
      clear HF
      have HF := Lib.hid hF; clear hF
      clear hf
      go_wp2
      go_ret
      exact ⟨rfl, HF.out⟩
    · rw [decide_eq_false (fun k : Tb.has ⟨l, b⟩ a => h1 k.2.1)]
      have HD := Lib.hid hd; clear hd; have H := Lib.hid h; clear h
      generalize hfst : Tb.fst ⟨l, b⟩ = f0 at *
      have hFst := Lib.hid hfst; clear hfst
      go_enter Tryz.func51, Tryz.ntmps51
      go_wp2_with fail
      refine (Check_any l b _).mono ?_
      rw [HD.out]
      rintro e w1 ⟨rfl, hf⟩
      have c0 := cell_fr' hf (box0 w (.int .i64 l) (.int .i64 b) 53) (fun h => h)
      have c1 := cell_fr' hf (box1 w (.int .i64 l) (.int .i64 b) 53) (fun h => h)
      have hF := ((Fr.refl NoB w).alloc _).trans hf
      have HF := Lib.hid hF; clear hF
      clear hf
      go_wp2_with fail
      refine (First_any l b _).mono ?_
      rw [hFst.out]
      rintro e w2 ⟨rfl, hf⟩
      have hF := HF.out.trans hf
      clear HF
      have HF := Lib.hid hF; clear hF
      clear hf
      go_wp2
      go_ret
      exact ⟨rfl, HF.out⟩
  · have hd := decide_eq_false h
    rw [decide_eq_false (fun k : Tb.has ⟨l, b⟩ a => h k.1)]
    have HD := Lib.hid hd; clear hd; have H := Lib.hid h; clear h
    go_enter Tryz.func51, Tryz.ntmps51
    go_wp2_with fail
    refine (Check_any l b _).mono ?_
    rw [HD.out]
    rintro e w1 ⟨rfl, hf⟩
    have hF := ((Fr.refl NoB w).alloc _).trans hf
    have HF := Lib.hid hF; clear hF
    clear hf
    go_wp2
    go_ret
    exact ⟨rfl, HF.out⟩
set_option maxHeartbeats 2000000 in
theorem Less_any (l b m c : Int) (w : World) :
    Calls Tryz.prog 84 #[.agg #[.int .i64 l, .int .i64 b], .agg #[.int .i64 m, .int .i64 c]] w (BoolFr (decide (Tb.less ⟨l, b⟩ ⟨m, c⟩)) w) := by
  generalize hx : Tb.fst ⟨l, b⟩ = f0
  generalize hy : Tb.fst ⟨m, c⟩ = f1
  have he : decide (Tb.less ⟨l, b⟩ ⟨m, c⟩) = (decide (f0 < f1) || (f0 == f1 && decide (l < m))) := by
    rw [Bool.eq_iff_iff]; simp [Tb.less, hx, hy]
  rw [he]
  have HX := Lib.hid hx; clear hx; have HY := Lib.hid hy; clear hy
  clear he
  have key : (decide (f0 < f1) = true ∧ (f0 == f1) = (f0 == f1)) ∨ (decide (f0 < f1) = false ∧ (f0 == f1) = true) ∨ (decide (f0 < f1) = false ∧ (f0 == f1) = false) := by
    cases h1 : decide (f0 < f1) <;> cases h2 : (f0 == f1) <;> simp
  rcases key with ⟨k1, k2⟩ | ⟨k1, k2⟩ | ⟨k1, k2⟩ <;> rw [k1, k2] <;> (
    go_enter Tryz.func84, Tryz.ntmps84
    go_upto_region 1 with fail
    refine wp_name fun w1 hw1 => ?_
    have c0 : w1.cell? ⟨w.heap.size, 0, none⟩ = some (.int .i64 l) := by rw [hw1]; simp
    have c1 : w1.cell? ⟨w.heap.size, 1, none⟩ = some (.int .i64 b) := by rw [hw1]; simp
    have d0 : w1.cell? ⟨w.heap.size + 1, 0, none⟩ = some (.int .i64 m) := by rw [hw1]; simp
    have d1 : w1.cell? ⟨w.heap.size + 1, 1, none⟩ = some (.int .i64 c) := by rw [hw1]; simp
    have hF : Fr NoB w w1 := by rw [hw1]; exact ((Fr.refl _ _).alloc _).alloc _
    clear hw1
    have HF := Lib.hid hF; clear hF
    go_region_held3 (fun W => W.cell? ⟨w.heap.size, 0, none⟩ = some (.int .i64 l) ∧ W.cell? ⟨w.heap.size, 1, none⟩ = some (.int .i64 b) ∧ W.cell? ⟨w.heap.size + 1, 0, none⟩ = some (.int .i64 m) ∧ W.cell? ⟨w.heap.size + 1, 1, none⟩ = some (.int .i64 c))
      (first | exact ⟨t0, t1, t2, t3⟩ | exact ⟨s0, s1, s2, s3⟩ | exact ⟨c0, c1, d0, d1⟩)
      (first | (go_at_call 82; have hh := HF.out; clear hh; go_must (refine (First_any _ _ _).mono ?_); go_must (first | rw [HX.out] | rw [HY.out]); go_must (rintro e w2 ⟨rfl, hf⟩); go_must (have s0 := cell_fr' hf c0 (fun h => h)); go_must (have s1 := cell_fr' hf c1 (fun h => h)); go_must (have s2 := cell_fr' hf d0 (fun h => h)); go_must (have s3 := cell_fr' hf d1 (fun h => h)); go_must (have hF := HF.out.drew.trans hf); go_must (clear hf HF c0 c1 d0 d1); go_must (have HF1 := Lib.hid hF); go_must (clear hF)) | (go_at_call 82; have hh := HF1.out; clear hh; go_must (refine (First_any _ _ _).mono ?_); go_must (first | rw [HX.out] | rw [HY.out]); go_must (rintro e w3 ⟨rfl, hf⟩); go_must (have t0 := cell_fr' hf s0 (fun h => h)); go_must (have t1 := cell_fr' hf s1 (fun h => h)); go_must (have t2 := cell_fr' hf s2 (fun h => h)); go_must (have t3 := cell_fr' hf s3 (fun h => h)); go_must (have hF := HF1.out.trans hf); go_must (clear hf HF1 s0 s1 s2 s3); go_must (have HF2 := Lib.hid hF); go_must (clear hF)))
    all_goals (
      go_wp2
      go_ret
      exact ⟨by simp, HF2.out⟩))
end Go.Proofs.YteedndapbfihaaaGreat
