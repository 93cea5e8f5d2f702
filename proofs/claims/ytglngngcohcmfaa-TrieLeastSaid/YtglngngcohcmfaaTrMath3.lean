/- Each part of a trie stands where it should. -/
import Derived.Test.YtglngngcohcmfaaTrMath2
namespace Go.Proofs.Ytglngngcohcmfaa.Tb

def Good : Tr → Pf → Prop
  | .leaf q _, p => q = p
  | .node q l r, p => q = p ∧ 0 ≤ p.len ∧ p.len < 8 ∧ 0 ≤ p.bits ∧ p.bits < 256 ∧ ¬ (l.isLeaf = true ∧ r.isLeaf = true ∧ l.hop0 = r.hop0) ∧ Good l (child p 0) ∧ Good r (child p 1)
theorem good_mk : ∀ (d : Nat) (p : Pf) (hs : List Int), Fit d p hs → Good (mkT d p hs) p
  | 0, _, _, _ => rfl
  | d + 1, p, hs, h => by
    by_cases k : alike hs
    · rw [(mkT_alike (d + 1) p hs h).2 k]; rfl
    · have hn := mkT_node h k
      rw [hn]
      refine ⟨rfl, h.1.1, h.lt, h.1.2.2.1, ?_, ?_, good_mk d _ _ h.low, good_mk d _ _ h.high⟩
      · rcases ok_cases h.1 with h | h | h | h | h | h | h | h | h <;> (have := h.2.2; omega)
      · intro e
        have : (mkT (d + 1) p hs).isLeaf = true := by
          show (join p (mkT d (child p 0) (lowH hs)) (mkT d (child p 1) (highH hs))).isLeaf = true
          unfold join
          rw [if_pos e]
          rfl
        exact k ((mkT_alike (d + 1) p hs h).1.1 this)
theorem good_root : ∀ {T : Tr} {p : Pf}, Good T p → T.root = p
  | .leaf _ _, _, h => h
  | .node _ _ _, _, h => h.1
end Go.Proofs.Ytglngngcohcmfaa.Tb
