/- All prefixes of two tables, as the loop finds them; no program. -/
import Derived.Test.YtdkkeaegmmepfaaLsMath9
namespace Go.Proofs.Ytdkkeaegmmepfaa.Tb

def uniK (A B : List Rt) (k : Nat) : List Rt := (B.take k).foldl (uniStep A) A
theorem uniK_all {A B : List Rt} : uniK A B B.length = uni A B := by
  unfold uniK uni
  rw [List.take_length]
theorem uniK_next {A B : List Rt} {k : Nat} (hk : k < B.length) : uniK A B (k + 1) = uniStep A (uniK A B k) (nth B k) := by
  unfold uniK
  rw [take_succ hk, List.foldl_append]
  rfl
theorem uniK_ok {A B : List Rt} (ha : Wf A) (hb : Wf B) (k : Nat) : Wf (uniK A B k) ∧ (uniK A B k).length ≤ A.length + B.length ∧ ∀ (_ : k < B.length), get A (nth B k).p = -2 → get (uniK A B k) (nth B k).p = -2 := by
  obtain ⟨h1, h2, h3⟩ := uni_in A (B.take k) A ha (fun r hr => hb.1 r (List.mem_of_mem_take hr)) (hb.2.sublist (List.take_sublist k B)) (fun _ _ h => h)
  refine ⟨h1, Nat.le_trans h2 (by rw [List.length_take]; omega), fun hk hg => Classical.byContradiction fun hn => ?_⟩
  rcases (h3 _).1 hn with h | ⟨r, hr, e, _⟩
  · exact h hg
  · obtain ⟨j, hj, rfl⟩ := List.mem_iff_getElem.1 hr
    have hj2 : j < k := by rw [List.length_take] at hj; omega
    have hl := (List.pairwise_iff_getElem.1 hb.2) j k (by omega) hk hj2
    rw [nth_eq hk] at e
    rw [List.getElem_take] at e
    rw [e] at hl
    exact less_irrefl _ hl
end Go.Proofs.Ytdkkeaegmmepfaa.Tb
