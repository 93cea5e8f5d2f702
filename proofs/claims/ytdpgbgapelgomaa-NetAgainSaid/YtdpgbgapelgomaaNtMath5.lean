/- Ages are counted at home; no best's age falls. -/
import Derived.Test.YtdpgbgapelgomaaNtMath3
namespace Go.Proofs.Ytdpgbgapelgomaa.Nt
open Nd

theorem tellT_N (t : NT) (a b : Int) : (tellT t a b).1.N = t.N := by
  unfold Nt.tellT; split
  · rfl
  · split
    · rfl
    · split <;> rfl
theorem tellsT_N (a : Int) : ∀ (l : List Nat) (t : NT), (tellsT t a l).1.N = t.N
  | [], _ => rfl
  | b :: l, t => by
    rw [Nt.tellsT]; split
    · rw [tellsT_N a l, tellT_N]
    · exact tellT_N t a b
/-- A node's age rises by its own tick alone. -/
theorem age_doT {t : NT} {n : Nat} (h : NOk t n) (k a b c : Int) {j : Nat} (hj : j < 6) : age (doT t k a b c).1 j = if k = 2 ∧ isN a ∧ j = a.toNat then age t j + 1 else age t j := by
  unfold age
  unfold Nt.doT
  by_cases h1 : k = 1
  · rw [if_pos h1, if_neg (by omega)]
    unfold Nt.linkT; split
    · rfl
    · rename_i hb
      simp only [setBad, Classical.not_not] at hb
      obtain ⟨p, rfl⟩ := Int.eq_ofNat_of_zero_le hb.1
      obtain ⟨q, rfl⟩ := Int.eq_ofNat_of_zero_le hb.2.2.1
      rw [Int.toNat_natCast, Int.toNat_natCast]
      show (upN (upN t.N p _) q _ j).wS j = _
      by_cases e : j = q
      · subst e
        rw [upN_same]
        have := linkC_wSme (t.N j) p c
        rwa [h.me j hj] at this
      · rw [upN_other _ _ _ _ e]
        by_cases e' : j = p
        · subst e'
          rw [upN_same]
          have := linkC_wSme (t.N j) q c
          rwa [h.me j hj] at this
        · rw [upN_other _ _ _ _ e']
  · rw [if_neg h1]
    by_cases h2 : k = 2
    · rw [if_pos h2]
      unfold Nt.tickT
      by_cases ha : isN a
      · rw [if_neg (fun h => h ha), tellsT_N]
        show (upN t.N a.toNat _ j).wS j = _
        by_cases e : j = a.toNat
        · rw [if_pos ⟨h2, ha, e⟩]
          subst e
          rw [upN_same]
          have := tick_wSme (t.N a.toNat)
          rwa [h.me _ hj] at this
        · rw [upN_other _ _ _ _ e, if_neg (fun h => e h.2.2)]
      · rw [if_pos ha, if_neg (fun h => ha h.2.1)]
    · have hz : ¬ (k = 2 ∧ isN a ∧ j = a.toNat) := fun h => h2 h.1
      rw [if_neg h2, if_neg hz]
      by_cases h3 : k = 3
      · rw [if_pos h3, tellT_N]
      · rw [if_neg h3]
        by_cases h4 : k = 4
        · rw [if_pos h4]
          unfold Nt.hearT; split
          · rfl
          · show (upN t.N _ _ j).wS j = _
            by_cases e : j = (nwAt t c.toNat).g.toNat
            · subst e
              rw [upN_same]
              have := hearC_wSme (t.N (nwAt t c.toNat).g.toNat) (nwAt t c.toNat).a (nwAt t c.toNat).t (nwAt t c.toNat).q (nwAt t c.toNat).d
              rwa [h.me _ hj] at this
            · rw [upN_other _ _ _ _ e]
        · rw [if_neg h4]
          by_cases h5 : k = 5
          · rw [if_pos h5]
            unfold Nt.loseT; split <;> rfl
          · rw [if_neg h5]
            by_cases h6 : k = 6
            · rw [if_pos h6]
              unfold Nt.dblT; split
              · rfl
              · split <;> rfl
            · rw [if_neg h6]
/-- No best becomes worse. -/
theorem nw_doT {t : NT} {n : Nat} (h : Str t n) (k a b c : Int) {f : Nat} (hf : f < 6) (j : Nat) : NW (t.N f) ((doT t k a b c).1.N f) j := by
  unfold Nt.doT
  split
  · unfold Nt.linkT; split
    · exact NW.refl _ _
    · show NW (t.N f) (upN (upN t.N a.toNat _) b.toNat _ f) j
      by_cases e : f = b.toNat
      · subst e; rw [upN_same]; exact NW.linkC _ _ _ _
      · rw [upN_other _ _ _ _ e]
        by_cases e' : f = a.toNat
        · subst e'; rw [upN_same]; exact NW.linkC _ _ _ _
        · rw [upN_other _ _ _ _ e']; exact NW.refl _ _
  · split
    · unfold Nt.tickT; split
      · exact NW.refl _ _
      · rw [tellsT_N]
        show NW (t.N f) (upN t.N a.toNat _ f) j
        by_cases e : f = a.toNat
        · subst e; rw [upN_same]; exact NW.tick (h.nice _ hf).bst _
        · rw [upN_other _ _ _ _ e]; exact NW.refl _ _
    · split
      · rw [tellT_N]; exact NW.refl _ _
      · split
        · unfold Nt.hearT; split
          · exact NW.refl _ _
          · show NW (t.N f) (upN t.N _ _ f) j
            by_cases e : f = (nwAt t c.toNat).g.toNat
            · subst e; rw [upN_same]; exact NW.hearC _ _ _ _ _ _
            · rw [upN_other _ _ _ _ e]; exact NW.refl _ _
        · split
          · unfold Nt.loseT; split <;> exact NW.refl _ _
          · split
            · unfold Nt.dblT; split
              · exact NW.refl _ _
              · split <;> exact NW.refl _ _
            · exact NW.refl _ _
theorem nw_seq {s s' : NS} {j : Nat} (h : NW s s' j) : s.bS j ≤ s'.bS j := by
  unfold NW at h
  rw [betB_no] at h
  omega
/-- A node's way to itself. -/
theorem own_way {t : NT} {n : Nat} (h : NOk t n) {a : Nat} (ha : a < 6) : (t.N a).wS a = age t a ∧ (t.N a).wD a = 0 ∧ (t.N a).wH a = a := by
  have h1 := (h.run a ha).own.d
  have h2 := (h.run a ha).own.h
  rw [h.me a ha] at h1 h2
  exact ⟨rfl, h1, h2⟩
theorem begun_best (a b : Nat) : (Nt.begun.N b).bS a = 0 := by
  simp only [Nt.begun, fresh, own, newK, up]
  split <;> rfl
theorem begun_age (a : Nat) : age Nt.begun a = 0 := by
  simp only [age, Nt.begun, fresh, own, newK]
end Go.Proofs.Ytdpgbgapelgomaa.Nt
