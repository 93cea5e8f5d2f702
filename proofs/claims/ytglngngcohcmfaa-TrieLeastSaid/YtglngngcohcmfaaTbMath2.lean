/- Of a row of routes: where a prefix stands, or would stand. -/
import Derived.Test.YtglngngcohcmfaaTbMath
namespace Go.Proofs.Ytglngngcohcmfaa.Tb

def cmp (r p : Pf) : Int := if less r p then -1 else if less p r then 1 else 0
/-- A place ahead of which all are less, and behind which none is. -/
def Place (L : List Rt) (p : Pf) (i : Nat) : Prop := i ≤ L.length ∧ (∀ t, t < i → less (nth L t).p p) ∧ (∀ t, i ≤ t → t < L.length → ¬ less (nth L t).p p)
theorem place_lo {L : List Rt} {p : Pf} {i : Nat} (h : Place L p i) : lo L p = L.take i ∧ (lo L p).length = i := by
  have h1 : lo L p = L.take i := by
    unfold lo
    conv => lhs; rw [← List.take_append_drop i L]
    rw [List.filter_append]
    have e1 : (L.take i).filter (fun r => decide (less r.p p)) = L.take i := by
      rw [List.filter_eq_self]
      intro r hr
      obtain ⟨t, ht, rfl⟩ := List.getElem_of_mem hr
      have h2 := h.2.1 t (by simp at ht; omega)
      rw [nth_eq (by simp at ht; omega)] at h2
      simpa using h2
    have e2 : (L.drop i).filter (fun r => decide (less r.p p)) = [] := by
      rw [List.filter_eq_nil_iff]
      intro r hr
      obtain ⟨t, ht, rfl⟩ := List.getElem_of_mem hr
      have h2 := h.2.2 (i + t) (by omega) (by simp at ht; omega)
      rw [nth_eq (by simp at ht; omega)] at h2
      simpa using h2
    rw [e1, e2, List.append_nil]
  refine ⟨h1, ?_⟩
  rw [h1, List.length_take]
  have := h.1
  omega
theorem mono_less {L : List Rt} (h : Wf L) {p : Pf} {s t : Nat} (hst : s ≤ t) (ht : t < L.length) (hl : less (nth L t).p p) : less (nth L s).p p := by
  by_cases e : s = t
  · subst e; exact hl
  · have := List.pairwise_iff_getElem.1 h.2 s t (by omega) ht (by omega)
    rw [← nth_eq (by omega : s < L.length), ← nth_eq ht] at this
    exact less_trans this hl
theorem found_iff {L : List Rt} (h : Wf L) {p : Pf} {i : Nat} (hi : Place L p i) : (decide (i < L.length) && decide (cmp (nth L i).p p = 0)) = decide (get L p ≠ -2) := by
  by_cases hp : Tb.ok p
  · obtain ⟨e1, e2⟩ := place_lo hi
    rcases split_wf h hp with ⟨g1, g2, g3⟩ | ⟨g1, g2, g3⟩
    · rw [decide_eq_false (by simp [g1] : ¬ get L p ≠ -2)]
      by_cases hil : i < L.length
      · have h1 := hi.2.2 i (Nat.le_refl _) hil
        have h2 := g3 _ (nth_mem hil)
        have h3 : less p (nth L i).p := by
          by_cases k : less p (nth L i).p
          · exact k
          · exact absurd (less_total (h.ok (nth_mem hil)) hp h1 k) h2
        unfold cmp
        rw [if_neg h1, if_pos h3]
        simp
      · simp [hil]
    · rw [decide_eq_true g1]
      have hil : i < L.length := by
        have := congrArg List.length g3
        rw [List.length_append, List.length_cons, e2] at this
        omega
      have hn : nth L i = ⟨p, get L p⟩ := by
        have : L[i]? = some ⟨p, get L p⟩ := by
          conv => lhs; rw [g3]
          rw [List.getElem?_append_right (by omega), e2]; simp
        unfold nth; rw [List.getD_eq_getElem?_getD, this]; rfl
      rw [hn]
      unfold cmp
      simp [hil, less_irrefl]
  · rw [get_no hp]
    by_cases hil : i < L.length
    · have h1 := hi.2.2 i (Nat.le_refl _) hil
      have h3 : less p (nth L i).p := less_no hp (h.ok (nth_mem hil))
      unfold cmp
      rw [if_neg h1, if_pos h3]
      simp
    · simp [hil]
theorem found_nth {L : List Rt} (h : Wf L) {p : Pf} (hg : get L p ≠ -2) : Tb.ok p ∧ (lo L p).length < L.length ∧ nth L (lo L p).length = ⟨p, get L p⟩ ∧ lo L p = L.take (lo L p).length ∧ hi L p = L.drop ((lo L p).length + 1) := by
  have hp : Tb.ok p := by
    by_cases k : Tb.ok p
    · exact k
    · exact absurd (get_no k) hg
  rcases split_wf h hp with ⟨g1, _, _⟩ | ⟨_, _, g3⟩
  · exact absurd g1 hg
  · refine ⟨hp, ?_⟩
    generalize lo L p = A at *
    generalize hi L p = C at *
    generalize get L p = g at *
    subst g3
    refine ⟨by simp, ?_, by simp, by simp⟩
    unfold nth
    rw [List.getD_eq_getElem?_getD, List.getElem?_append_right (Nat.le_refl _)]
    simp
theorem notfound_split {L : List Rt} (h : Wf L) {p : Pf} (hp : Tb.ok p) (hg : get L p = -2) : lo L p = L.take (lo L p).length ∧ hi L p = L.drop (lo L p).length := by
  rcases split_wf h hp with ⟨_, g2, _⟩ | ⟨g1, _, _⟩
  · generalize lo L p = A at *
    generalize hi L p = C at *
    clear hg h
    subst g2
    exact ⟨by simp, by simp⟩
  · exact absurd hg g1
end Go.Proofs.Ytglngngcohcmfaa.Tb
