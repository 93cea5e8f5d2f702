/- Covers, children and parents of prefixes; no program. -/
import Derived.Test.YtglngngcohcmfaaDoorPfMath
namespace Go.Proofs.YtglngngcohcmfaaDoor.Tb

def child (p : Pf) (bit : Int) : Pf := ⟨p.len + 1, p.bits * 2 + bit⟩
def parent (p : Pf) : Pf := ⟨p.len - 1, p.bits / 2⟩
def hasChild (p : Pf) (bit : Int) : Prop := ok p ∧ p.len < 8 ∧ 0 ≤ bit ∧ bit ≤ 1
instance (p : Pf) (bit : Int) : Decidable (hasChild p bit) := by unfold hasChild; infer_instance
def hasParent (p : Pf) : Prop := ok p ∧ 0 < p.len
instance (p : Pf) : Decidable (hasParent p) := by unfold hasParent; infer_instance
def covers (p q : Pf) : Prop := ok p ∧ ok q ∧ p.len ≤ q.len ∧ q.bits / 2 ^ (q.len - p.len).toNat = p.bits
instance (p q : Pf) : Decidable (covers p q) := by unfold covers; infer_instance
theorem bits_lt {p : Pf} (h : ok p) : p.bits < 256 := by
  rcases ok_cases h with h | h | h | h | h | h | h | h | h <;> (obtain ⟨_, _, h⟩ := h; omega)
end Go.Proofs.YtglngngcohcmfaaDoor.Tb
