/- A node's way to itself. -/
import Derived.Test.YtdpgbgapelgomaaNdMath
namespace Go.Proofs.Ytdpgbgapelgomaa.Nd

/-- Its way to itself is itself. -/
structure Own (s : NS) : Prop where
  d : s.wD s.me = 0
  h : s.wH s.me = s.me
theorem pick_me (s : NS) (k : Nat) : (pick s k).me = s.me := by unfold pick; split <;> rfl
theorem Own.pick {s : NS} (h : Own s) (k : Nat) : Own (pick s k) := by
  unfold Nd.pick
  split
  · exact h
  · rename_i hk
    have e : s.me ≠ k := fun e => hk e.symm
    exact ⟨by show up s.wD k _ s.me = 0; rw [up_other _ _ _ _ e]; exact h.d, by show up s.wH k _ s.me = s.me; rw [up_other _ _ _ _ e]; exact h.h⟩
theorem Own.all {s : NS} (h : Own s) : ∀ k, Own (all s k)
  | 0 => h
  | k + 1 => (Own.all h k).pick k
theorem Own.link {s : NS} (h : Own s) (who : Nat) (c : Int) : Own (link s who c) := by
  unfold Nd.link
  dsimp only
  split
  · exact Own.all (s := forget { s with cost := up s.cost who c } who) ⟨h.d, h.h⟩ 6
  · exact Own.all (s := { s with cost := up s.cost who c }) ⟨h.d, h.h⟩ 6
theorem Own.hear {s : NS} (h : Own s) (src dst : Nat) (q d : Int) : Own (hear s src dst q d) := Own.pick (s := { s with hS := up2 s.hS src dst q, hD := up2 s.hD src dst d }) ⟨h.d, h.h⟩ dst
theorem Own.tick (s : NS) : Own (tick s) := ⟨by simp [Nd.tick, Nd.own], by simp [Nd.tick, Nd.own]⟩
theorem Own.fresh (me : Nat) : Own (fresh me) := ⟨by simp [Nd.fresh, Nd.own], by simp [Nd.fresh, Nd.own]⟩
theorem Own.linkC {s : NS} (h : Own s) (who c : Int) : Own (linkC s who c).1 := by
  unfold Nd.linkC; split
  · exact h
  · exact h.link _ c
theorem Own.hearC {s : NS} (h : Own s) (f t q d : Int) : Own (hearC s f t q d).1 := by
  unfold Nd.hearC; split
  · exact h
  · split
    · exact h
    · exact h.hear _ _ q d
theorem up_id {f : Nat → Int} {i : Nat} {v : Int} (h : f i = v) : up f i v = f := by
  funext j; unfold up; split
  · rename_i e; rw [e]; exact h.symm
  · rfl
/-- The reference's tick is the same. -/
theorem tick_ref {s : NS} (h : Own s) : { s with wS := up s.wS s.me (s.wS s.me + 1), bS := up s.bS s.me (s.wS s.me + 1), bD := up s.bD s.me 0 } = tick s := by
  have e1 : up s.wD s.me 0 = s.wD := up_id h.d
  have e2 : up s.wH s.me s.me = s.wH := up_id h.h
  simp only [tick, own, up_same, e1, e2]

/-- A mind's first look: its way to itself laid at last. -/
theorem fresh_ref (me : Nat) : { newK me 6 with wS := up (newK me 6).wS me 0, wD := up (newK me 6).wD me 0, wH := up (newK me 6).wH me me, bS := up (newK me 6).bS me 0, bD := up (newK me 6).bD me 0 } = fresh me := by
  have e1 : up (newK me 6).wS me 0 = (newK me 6).wS := up_id rfl
  rw [e1]
  rfl
end Go.Proofs.Ytdpgbgapelgomaa.Nd
