/- What is older or longer than the best is not gone. -/
import Derived.Test.YtdpgbgapelgomaaNdMath3
namespace Go.Proofs.Ytdpgbgapelgomaa.Nd

theorem wayOf_pick_other (s : NS) (dst k : Nat) (h : k ≠ dst) : wayOf (pick s dst) k = wayOf s k := by
  unfold Nd.pick
  split
  · rfl
  · simp only [wayOf, lay, up_other _ _ _ _ h]
theorem wayOf_hear_other (s : NS) (f t : Nat) (q d : Int) (k : Nat) (h : k ≠ t) : wayOf (hear s f t q d) k = wayOf s k := wayOf_pick_other _ _ _ h
theorem choose_hop (s : NS) (dst : Nat) (f : Nat) (h : (choose s dst 6).hop = f) : may s f dst = true ∧ choose s dst 6 = key s dst f := by
  rcases choose_spec s dst 6 with ⟨h1, _⟩ | ⟨t, ht, h1⟩
  · rw [h1] at h; simp only [none] at h; omega
  · rw [h1] at h
    simp only [key] at h
    have : t = f := by omega
    subst this
    exact ⟨ht.may, h1⟩
theorem stale {s : NS} (own : Own s) (f t : Nat) (q d : Int) (_hf : f < 6) (hfm : f ≠ s.me) (hb : betB q d ((hear s f t q d).bS t) ((hear s f t q d).bD t) = false) : (hear s f t q d).wH t ≠ f := by
  unfold hear Nd.pick at *
  by_cases hm : t = s.me
  · rw [if_pos hm]
    intro e
    subst hm
    rw [own.h] at e
    omega
  · rw [if_neg hm] at *
    intro e
    simp only [lay, up_same] at e
    obtain ⟨h1, h2⟩ := choose_hop _ _ _ e
    simp only [may, Bool.and_eq_true, decide_eq_true_eq, up2, and_self, if_true] at h1
    obtain ⟨⟨hc, _⟩, h3⟩ := h1
    rw [h2] at hb
    simp only [lay, key, up2, and_self, if_true] at hb
    by_cases hbb : betB q (d + s.cost f) (s.bS t) (s.bD t) = true
    · have hx : (f : Int) ≠ -1 ∧ betB q (d + s.cost f) (s.bS t) (s.bD t) = true := ⟨by omega, hbb⟩
      rw [if_pos hx, if_pos hx, up_same, up_same, betB_no] at hb
      omega
    · have hx : ¬ ((f : Int) ≠ -1 ∧ betB q (d + s.cost f) (s.bS t) (s.bD t) = true) := fun h => hbb h.2
      rw [if_neg hx, if_neg hx, h3] at hb
      cases hb
theorem hearC_no {s : NS} {f t q d : Int} (h : (hearC s f t q d).2 ≠ 0) : (hearC s f t q d).1 = s := by
  unfold hearC at *
  split at h
  · rename_i hb; rw [if_pos hb]
  · rename_i hb
    rw [if_neg hb]
    split at h
    · rename_i hc; rw [if_pos hc]
    · exact absurd rfl h
theorem hearC_ok {s : NS} {f t q d : Int} (h : (hearC s f t q d).2 = 0) : ¬ hearBad s f t q d ∧ s.cost f.toNat ≠ 0 ∧ (hearC s f t q d).1 = hear s f.toNat t.toNat q d := by
  unfold hearC at *
  split at h
  · simp at h
  · rename_i hb
    rw [if_neg hb]
    split at h
    · simp at h
    · rename_i hc; rw [if_neg hc]; exact ⟨hb, hc, rfl⟩
theorem staleC {s : NS} {f t q d : Int} (own : Own s) (h : (hearC s f t q d).2 = 0) (j : Nat) :
    ((j : Int) ≠ t → wayOf (hearC s f t q d).1 j = wayOf s j) ∧ ((j : Int) = t → betB q d ((hearC s f t q d).1.bS j) ((hearC s f t q d).1.bD j) = false → (hearC s f t q d).1.wH j ≠ f) := by
  obtain ⟨h1, _, h2⟩ := hearC_ok h
  simp only [hearBad] at h1
  obtain ⟨x, rfl⟩ := Int.eq_ofNat_of_zero_le (a := f) (by omega)
  obtain ⟨y, rfl⟩ := Int.eq_ofNat_of_zero_le (a := t) (by omega)
  rw [h2, Int.toNat_natCast, Int.toNat_natCast]
  refine ⟨fun hj => wayOf_hear_other _ _ _ _ _ _ (by omega), fun hj hb => ?_⟩
  obtain rfl : j = y := by omega
  exact stale own x j q d (by omega) (by omega) hb
end Go.Proofs.Ytdpgbgapelgomaa.Nd
