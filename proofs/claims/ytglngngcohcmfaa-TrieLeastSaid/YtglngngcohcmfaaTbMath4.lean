/- Which route an address goes by. -/
import Derived.Test.YtglngngcohcmfaaTbMath3
namespace Go.Proofs.Ytglngngcohcmfaa.Tb

theorem look_keep {a : Int} : ∀ (L : List Rt) (h : Int), (∀ r ∈ L, ¬ has r.p a) → L.foldl (lookF a) h = h
  | [], _, _ => rfl
  | r :: L, h, k => by
    rw [List.foldl_cons]
    have : lookF a h r = h := by unfold lookF; rw [if_neg (k r (List.mem_cons_self ..))]
    rw [this]
    exact look_keep L h (fun s hs => k s (List.mem_cons_of_mem _ hs))
theorem look_none {L : List Rt} {a : Int} (h : ∀ r ∈ L, ¬ has r.p a) : look L a = -1 := look_keep L (-1) h
theorem look_split {A B : List Rt} {r : Rt} {a : Int} (hr : has r.p a) (hB : ∀ s ∈ B, ¬ has s.p a) : look (A ++ r :: B) a = r.hop := by
  unfold look
  rw [List.foldl_append, List.foldl_cons]
  have : lookF a (A.foldl (lookF a) (-1)) r = r.hop := by unfold lookF; rw [if_pos hr]
  rw [this]
  exact look_keep B _ hB
theorem split_at {L : List Rt} {i : Nat} (hi : i < L.length) : L = L.take i ++ nth L i :: L.drop (i + 1) := by
  rw [nth_eq hi, ← List.drop_eq_getElem_cons hi, List.take_append_drop]
theorem look_last {L : List Rt} {a : Int} {i : Nat} (hi : i < L.length) (hr : has (nth L i).p a) (h : ∀ k, i < k → k < L.length → ¬ has (nth L k).p a) : look L a = (nth L i).hop := by
  conv => lhs; rw [split_at hi]
  refine look_split hr (fun s hs => ?_)
  obtain ⟨t, ht, rfl⟩ := List.getElem_of_mem hs
  rw [List.length_drop] at ht
  have := h (i + 1 + t) (by omega) (by omega)
  rw [nth_eq (by omega)] at this
  simpa using this
/-- The longest counts. -/
theorem look_longest {L : List Rt} (hw : Wf L) {a : Int} {i : Nat} (hi : i < L.length) (hr : has (nth L i).p a) (h : ∀ k, k < L.length → has (nth L k).p a → (nth L k).p.len ≤ (nth L i).p.len) : look L a = (nth L i).hop := by
  refine look_last hi hr (fun k h1 h2 h3 => ?_)
  have hl : less (nth L i).p (nth L k).p := by
    rw [nth_eq hi, nth_eq h2]
    exact List.pairwise_iff_getElem.1 hw.2 i k hi h2 h1
  have := nested hl hr h3
  have := h k h2 h3
  omega
theorem none_of {L : List Rt} {a : Int} (h : ∀ k, k < L.length → ¬ has (nth L k).p a) : look L a = -1 :=
  look_none (fun r hr => by
    obtain ⟨t, ht, rfl⟩ := List.getElem_of_mem hr
    have := h t ht
    rwa [nth_eq ht] at this)
end Go.Proofs.Ytglngngcohcmfaa.Tb
