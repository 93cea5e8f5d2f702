/- Owners: what was given, taken again. -/
import Derived.Test.YteedndapbfihaaaGreatB29
import Derived.Test.YteedndapbfihaaaGreatB27
namespace Go.Proofs.YteedndapbfihaaaGreat.Fb

theorem none_owner {o : List Tb.Rt} (ho : OOk o) {a : Int} (h : Tb.look o a = -1) : ∀ r ∈ o, ¬ Tb.has r.p a := by
  have key : ∀ (L : List Tb.Rt) (h : Int), (∀ r ∈ L, Nt.isN r.hop) → (Nt.isN h ∨ ∃ r ∈ L, Tb.has r.p a) → Nt.isN (L.foldl (Tb.lookF a) h) := by
    intro L
    induction L with
    | nil =>
      rintro h _ (k | ⟨r, hr, _⟩)
      · exact k
      · cases hr
    | cons r L ih =>
      intro h hL hh
      refine ih _ (fun s hs => hL s (List.mem_cons_of_mem _ hs)) ?_
      unfold Tb.lookF
      by_cases e : Tb.has r.p a
      · rw [if_pos e]; exact .inl (hL r (by simp))
      · rw [if_neg e]
        rcases hh with k | ⟨s, hs, k⟩
        · exact .inl k
        · rcases List.mem_cons.1 hs with rfl | hs
          · exact absurd k e
          · exact .inr ⟨s, hs, k⟩
  intro r hr k
  have := key o (-1) ho.hop (.inr ⟨r, hr, k⟩)
  rw [show o.foldl (Tb.lookF a) (-1) = -1 from h] at this
  have := this.1
  omega
/-- A prefix that is given, and taken again. -/
theorem own_back {o : List Tb.Rt} (ho : OOk o) {n pl pb : Int} (hg : Tb.get o ⟨pl, pb⟩ = -2) (hc : (ownT o n 1 pl pb).2 = 0) :
    ownT (ownT o n 1 pl pb).1 n 0 pl pb = (o, 0) ∧ ∀ a, Tb.has ⟨pl, pb⟩ a → Tb.look o a = -1 → Tb.look (ownT o n 1 pl pb).1 a = n := by
  by_cases hn : Nt.isN n
  · have e1 : ownH n 1 = n := by unfold ownH; rw [if_neg (by omega)]
    have e0 : ownH n 0 = -2 := by unfold ownH; rw [if_pos rfl]
    have k1 : ownT o n 1 pl pb = (Tb.setL o ⟨pl, pb⟩ n, Tb.setC o ⟨pl, pb⟩ n) := by rw [ownT_yes o hn, e1]
    rw [k1] at hc ⊢
    dsimp only at hc ⊢
    rw [ownT_yes _ hn, e0]
    obtain ⟨_, h1, h2⟩ := Tb.set_back ho.wf ho.len hc
    rw [hg] at h1 h2
    refine ⟨by rw [h1, h2], fun a ha hl => ?_⟩
    rw [Tb.setL_eq hc]
    refine Tb.set_says (by unfold Nt.isN at hn; omega) ha ?_
    rintro ⟨k, hk, hh, _⟩
    exact none_owner ho hl _ (Tb.nth_mem hk) hh
  · rw [ownT_no o hn] at hc
    cases hc
end Go.Proofs.YteedndapbfihaaaGreat.Fb
