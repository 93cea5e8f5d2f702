/- Plain mathematics: what one link more, or less, does to the least distances. -/
import Derived.Test.YtdpgbgapelgomaaLkMath
namespace Go.Proofs.Ytdpgbgapelgomaa.Lk
section
variable {C D : Nat → Nat → Int}

/-- Where each link of C is there in D and no dearer, nobody is farther by D. -/
theorem mono {s : Int} {f g : Nat → Int} (hf : Sol C s f) (hg : Sol D s g) (h : ∀ u v, u < 6 → v < 6 → 0 < C u v → 0 < D u v ∧ D u v ≤ C u v) (v : Nat) (hv : v < 6) : g v ≤ f v := by
  by_cases h2 : f v < 200
  · refine hf.ind (fun v => g v ≤ f v) ?_ ?_ v hv h2
    · intro v hv hs
      rw [hg.src v hv hs]; exact hf.lo v hv
    · intro a v ha hv hc _ _ hs hp
      obtain ⟨h3, h4⟩ := h a v ha hv hc
      have := hg.step a v ha hv h3
      omega
  · have := hg.hi v hv; omega

/-- D is C with the link of a and b at cost c, c above 0 and no more than it was (or there was none). -/
structure Less (C D : Nat → Nat → Int) (a b : Nat) (c : Int) : Prop where
  pos : 0 < c
  ab : D a b = c
  ba : D b a = c
  other : ∀ u v, u < 6 → v < 6 → ¬ (u = a ∧ v = b) → ¬ (u = b ∧ v = a) → D u v = C u v
  was : C a b = 0 ∨ c ≤ C a b

theorem Less.links {a b : Nat} {c : Int} (h : Less C D a b c) (hC : CostOK C) (ha : a < 6) (hb : b < 6) : ∀ u v, u < 6 → v < 6 → 0 < C u v → 0 < D u v ∧ D u v ≤ C u v := by
  intro u v hu hv hc
  have hp := h.pos
  by_cases e1 : u = a ∧ v = b
  · obtain ⟨rfl, rfl⟩ := e1
    have := h.ab; have := h.was
    omega
  · by_cases e2 : u = b ∧ v = a
    · obtain ⟨rfl, rfl⟩ := e2
      have := h.ba; have := h.was; have := hC.sym u v hu hv
      omega
    · rw [h.other u v hu hv e1 e2]; omega

def by2 (f : Nat → Nat → Int) (a b : Nat) (c : Int) (n m : Nat) : Int := min (f n a + c + f b m) (f n b + c + f a m)

theorem less_eq {a b : Nat} {c : Int} {f g : Nat → Nat → Int} (hC : CostOK C) (h : Less C D a b c) (ha : a < 6) (hb : b < 6)
    (hf : ∀ s : Nat, s < 6 → Sol C s (f s)) (hg : ∀ s : Nat, s < 6 → Sol D s (g s)) (n m : Nat) (hn : n < 6) (hm : m < 6) : g n m = min (f n m) (by2 f a b c n m) := by
  have hle : ∀ s : Nat, s < 6 → ∀ v, v < 6 → g s v ≤ f s v := fun s hs v hv => mono (hf s hs) (hg s hs) (h.links hC ha hb) v hv
  have hp := h.pos
  have h200 := (hg n hn).hi m hm
  have up1 : g n m ≤ f n a + c + f b m := by
    by_cases e : f n a + c + f b m < 200
    · have h1 := hle n hn a ha
      have h2 := (hg n hn).step a b ha hb (by rw [h.ab]; exact hp)
      have h3 := hle b hb m hm
      have h4 := (hf b hb).lo m hm
      rw [h.ab] at h2
      have h5 := tri hb (hg n hn) (hg b hb) m hm (by omega)
      omega
    · omega
  have up2 : g n m ≤ f n b + c + f a m := by
    by_cases e : f n b + c + f a m < 200
    · have h1 := hle n hn b hb
      have h2 := (hg n hn).step b a hb ha (by rw [h.ba]; exact hp)
      have h3 := hle a ha m hm
      have h4 := (hf a ha).lo m hm
      rw [h.ba] at h2
      have h5 := tri ha (hg n hn) (hg a ha) m hm (by omega)
      omega
    · omega
  have lo : g n m < 200 → min (f n m) (by2 f a b c n m) ≤ g n m := by
    intro h2
    refine (hg n hn).ind (fun m => min (f n m) (by2 f a b c n m) ≤ g n m) ?_ ?_ m hm h2
    · intro v hv hs
      have : v = n := by omega
      subst this
      have h3 := (hf v hv).src v hv rfl
      have h4 := (hg v hv).lo v hv
      omega
    · intro u v hu hv hc _ _ hs hp2
      simp only [by2] at hp2 ⊢
      by_cases e1 : u = a ∧ v = b
      · obtain ⟨rfl, rfl⟩ := e1
        rw [h.ab] at hs
        have := (hf v hv).src v hv rfl
        have := (hf u hu).src u hu rfl
        have := (hf v hv).lo u hu
        omega
      · by_cases e2 : u = b ∧ v = a
        · obtain ⟨rfl, rfl⟩ := e2
          rw [h.ba] at hs
          have := (hf v hv).src v hv rfl
          have := (hf u hu).src u hu rfl
          have := (hf v hv).lo u hu
          omega
        · rw [h.other u v hu hv e1 e2] at hs hc
          have := (hf n hn).step u v hu hv hc
          have := (hf a ha).step u v hu hv hc
          have := (hf b hb).step u v hu hv hc
          omega
  have h1 := hle n hn m hm
  have hf2 := (hf n hn).hi m hm
  simp only [by2] at lo ⊢
  omega
end
end Go.Proofs.Ytdpgbgapelgomaa.Lk
