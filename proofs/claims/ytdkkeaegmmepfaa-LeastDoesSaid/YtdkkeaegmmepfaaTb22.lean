/- Routes as they are read; what stays through sets. -/
import Derived.Test.YtdkkeaegmmepfaaTb21
namespace Go.Proofs.Ytdkkeaegmmepfaa
open Go.RowKit Go.Deep

theorem Fr.noB {t : Nat} {v : Value} {w w1 w2 : World} (h : Fr NoB w w1) (hf : Fr (TB t v) w1 w2) (ht : w.heap.size ≤ t) (hv : ∀ g, v.ownBlock = some g → w.heap.size ≤ g) : Fr NoB w w2 :=
  h.trans' hf (fun i hi e => by
    rcases e with e | e
    · omega
    · have := hv i e; omega)
/-- The routes that a slice's cells are. -/
theorem rs_of_rd {w : World} {a : Option Addr} {n : Nat} {X : Nat → Int} (h : Rd w a (n * 3) X) : ∃ L : List Tb.Rt, L.length = n ∧ Rs w a L := by
  refine ⟨(List.range n).map fun (k : Nat) => ⟨⟨X (k * 3), X (k * 3 + 1)⟩, X (k * 3 + 2)⟩, by simp, ?_⟩
  have hl : ((List.range n).map fun (k : Nat) => (⟨⟨X (k * 3), X (k * 3 + 1)⟩, X (k * 3 + 2)⟩ : Tb.Rt)).length = n := by simp
  refine Rs.of_rd (X := X) (by rw [hl]; exact h) (fun k hk => ?_)
  rw [hl] at hk
  have e : Tb.nth ((List.range n).map fun (k : Nat) => (⟨⟨X (k * 3), X (k * 3 + 1)⟩, X (k * 3 + 2)⟩ : Tb.Rt)) k = ⟨⟨X (k * 3), X (k * 3 + 1)⟩, X (k * 3 + 2)⟩ := by
    rw [Tb.nth_eq (by rw [hl]; exact hk)]
    simp
  rw [e]
  exact ⟨rfl, rfl, rfl⟩
end Go.Proofs.Ytdkkeaegmmepfaa
