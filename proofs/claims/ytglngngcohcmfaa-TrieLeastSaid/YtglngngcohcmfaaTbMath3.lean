/- The document's SetOf, element by element, comes to the same as the plain words. -/
import Derived.Test.YtglngngcohcmfaaTbMath2
namespace Go.Proofs.Ytglngngcohcmfaa.Tb

def stS (p : Pf) (hop : Int) (s : List Rt × Bool) (r : Rt) : List Rt × Bool :=
  if r.p = p then s else if s.2 = false ∧ less p r.p then (s.1 ++ [⟨p, hop⟩] ++ [r], true) else (s.1 ++ [r], s.2)
def soF (L : List Rt) (p : Pf) (hop : Int) : List Rt × Bool := L.foldl (stS p hop) ([], hop == -2)
def soEnd (s : List Rt × Bool) (p : Pf) (hop : Int) : List Rt := if s.2 then s.1 else s.1 ++ [⟨p, hop⟩]
theorem soF_app (L : List Rt) (r : Rt) (p : Pf) (hop : Int) : soF (L ++ [r]) p hop = stS p hop (soF L p hop) r := by unfold soF; rw [List.foldl_append]; rfl
theorem soF_len (p : Pf) (hop : Int) : ∀ (n : Nat) (L : List Rt), L.length = n → (soF L p hop).1.length ≤ 2 * n
  | 0, L, h => by rw [List.length_eq_zero_iff.1 h]; simp [soF]
  | n + 1, L, h => by
    obtain ⟨T, r, rfl⟩ : ∃ T r, L = T ++ [r] := ⟨L.dropLast, L.getLast (by intro e; rw [e] at h; cases h), (List.dropLast_concat_getLast _).symm⟩
    have := soF_len p hop n T (by simpa using h)
    rw [soF_app]
    unfold stS
    split
    · omega
    · split <;> simp <;> omega
theorem lo_app (A B : List Rt) (p : Pf) : lo (A ++ B) p = lo A p ++ lo B p := by unfold lo; rw [List.filter_append]
theorem hi_app (A B : List Rt) (p : Pf) : hi (A ++ B) p = hi A p ++ hi B p := by unfold hi; rw [List.filter_append]
theorem so_inv {p : Pf} (hp : Tb.ok p) (hop : Int) : ∀ (n : Nat) (L : List Rt), L.length = n → Wf L → soF L p hop = (lo L p ++ (if hi L p = [] then [] else mid p hop) ++ hi L p, decide (hop = -2 ∨ hi L p ≠ []))
  | 0, L, h, _ => by
    rw [List.length_eq_zero_iff.1 h]
    show (([] : List Rt), hop == -2) = _
    simp only [lo, hi, List.filter_nil, if_true, List.append_nil, ne_eq, not_true, or_false]
    rfl
  | n + 1, L, h, hw => by
    obtain ⟨T, r, rfl⟩ : ∃ T r, L = T ++ [r] := ⟨L.dropLast, L.getLast (by intro e; rw [e] at h; cases h), (List.dropLast_concat_getLast _).symm⟩
    obtain ⟨h1, h2⟩ := wf_app hw
    have hr := (hw.1 r (List.mem_append_right _ (List.mem_singleton.2 rfl))).1
    have ih := so_inv hp hop n T (by simpa using h) h1
    rw [soF_app, ih, lo_app, hi_app]
    unfold stS
    by_cases e : r.p = p
    · have e1 : lo [r] p = [] := by unfold lo; rw [List.filter_cons_of_neg (by simp [e, less_irrefl])]; rfl
      have e2 : hi [r] p = [] := by unfold hi; rw [List.filter_cons_of_neg (by simp [e, less_irrefl])]; rfl
      rw [if_pos e, e1, e2, List.append_nil, List.append_nil]
    · rw [if_neg e]
      by_cases l1 : less p r.p
      · have e1 : lo [r] p = [] := by unfold lo; rw [List.filter_cons_of_neg (by simpa using less_asymm l1)]; rfl
        have e2 : hi [r] p = [r] := by unfold hi; rw [List.filter_cons_of_pos (by simpa using l1)]; rfl
        rw [e1, e2, List.append_nil]
        by_cases hh : hi T p = []
        · by_cases h0 : hop = -2
          · simp [hh, h0, mid]
          · simp [hh, h0, mid, l1]
        · simp [hh]
      · have l2 : less r.p p := by
          by_cases k : less r.p p
          · exact k
          · exact absurd (less_total hr hp k l1) e
        have e1 : lo [r] p = [r] := by unfold lo; rw [List.filter_cons_of_pos (by simpa using l2)]; rfl
        have e2 : hi [r] p = [] := by unfold hi; rw [List.filter_cons_of_neg (by simpa using l1)]; rfl
        have e3 : hi T p = [] := by
          unfold hi
          rw [List.filter_eq_nil_iff]
          intro s hs
          simpa using less_asymm (less_trans (h2 s hs) l2)
        rw [e1, e2, e3]
        simp [l1]
theorem so_end {L : List Rt} (h : Wf L) {p : Pf} (hp : Tb.ok p) (hop : Int) : soEnd (soF L p hop) p hop = setOk L p hop := by
  rw [so_inv hp hop L.length L rfl h]
  unfold soEnd setOk
  by_cases h0 : hop = -2
  · simp [h0, mid]
  · by_cases hh : hi L p = []
    · simp [hh, h0, mid]
    · simp [hh]
end Go.Proofs.Ytglngngcohcmfaa.Tb
