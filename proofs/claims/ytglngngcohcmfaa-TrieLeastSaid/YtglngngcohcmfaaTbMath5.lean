/- A route set, and what it says of addresses; set and taken away. -/
import Derived.Test.YtglngngcohcmfaaTbMath4
namespace Go.Proofs.Ytglngngcohcmfaa.Tb

theorem filter_mid (P : Rt → Bool) (p : Pf) (hop : Int) (h : ∀ x : Int, P ⟨p, x⟩ = false) : (mid p hop).filter P = [] := by
  unfold mid
  split
  · rfl
  · rw [List.filter_cons_of_neg (by simp [h])]; rfl
theorem lo_set (L : List Rt) (p : Pf) (hop : Int) : lo (setOk L p hop) p = lo L p := by
  unfold setOk
  rw [lo_app, lo_app]
  have e1 : lo (lo L p) p = lo L p := by
    unfold lo
    rw [List.filter_filter]
    congr 1
    funext r
    simp
  have e2 : lo (mid p hop) p = [] := filter_mid _ _ _ (fun x => by simpa using less_irrefl p)
  have e3 : lo (hi L p) p = [] := by
    unfold lo
    rw [List.filter_eq_nil_iff]
    intro r hr
    simpa using less_asymm (hi_mem hr).2
  rw [e1, e2, e3, List.append_nil, List.append_nil]
theorem hi_set (L : List Rt) (p : Pf) (hop : Int) : hi (setOk L p hop) p = hi L p := by
  unfold setOk
  rw [hi_app, hi_app]
  have e1 : hi (hi L p) p = hi L p := by
    unfold hi
    rw [List.filter_filter]
    congr 1
    funext r
    simp
  have e2 : hi (mid p hop) p = [] := filter_mid _ _ _ (fun x => by simpa using less_irrefl p)
  have e3 : hi (lo L p) p = [] := by
    unfold hi
    rw [List.filter_eq_nil_iff]
    intro r hr
    simpa using less_asymm (lo_mem hr).2
  rw [e1, e2, e3, List.nil_append, List.nil_append]
theorem get_set {L : List Rt} {p : Pf} (hp : Tb.ok p) (hop : Int) : get (setOk L p hop) p = hop := by
  have h1 : ∀ r ∈ lo L p, r.p ≠ p := fun r hr e => less_irrefl p (by have := (lo_mem hr).2; rwa [e] at this)
  have h2 : ∀ r ∈ hi L p, r.p ≠ p := fun r hr e => less_irrefl p (by have := (hi_mem hr).2; rwa [e] at this)
  unfold setOk mid
  by_cases e : hop = -2
  · rw [if_pos e, List.append_nil, e]
    refine get_none (fun r hr => ?_)
    rcases List.mem_append.1 hr with hr | hr
    · exact h1 r hr
    · exact h2 r hr
  · rw [if_neg e, List.append_assoc]
    exact get_hit hp h1
theorem set_back {L : List Rt} (hw : Wf L) (hl : L.length ≤ 40) {p : Pf} {hop : Int} (hc : setC L p hop = 0) :
    get (setL L p hop) p = hop ∧ setC (setL L p hop) p (get L p) = 0 ∧ setL (setL L p hop) p (get L p) = L := by
  obtain ⟨hp, h2, h3, h4⟩ := setC_0 hc
  have e1 : setL L p hop = setOk L p hop := by unfold setL; rw [if_pos hc]
  rw [e1]
  have hg := get_set (L := L) hp hop
  have hgo : get L p = -2 ∨ hopOK (get L p) := by
    rcases split_wf hw hp with ⟨g, _, _⟩ | ⟨_, g, _⟩
    · exact .inl g
    · exact .inr g
  have hL : setOk L p (get L p) = L := by
    unfold setOk mid
    rcases split_wf hw hp with ⟨g, e, _⟩ | ⟨g, _, e⟩
    · rw [if_pos g, List.append_nil]; exact e.symm
    · rw [if_neg g, List.append_assoc]; exact e.symm
  have hlen : hop = -2 → get L p ≠ -2 → (setOk L p hop).length < 40 := by
    intro k1 k2
    rcases split_wf hw hp with ⟨g, _, _⟩ | ⟨_, _, e⟩
    · exact absurd g k2
    · have := congrArg List.length e
      rw [List.length_append, List.length_cons] at this
      unfold setOk mid
      rw [if_pos k1, List.append_nil, List.length_append]
      omega
  have hc2 : setC (setOk L p hop) p (get L p) = 0 := by
    unfold setC
    rw [hg, if_neg, if_neg, if_neg]
    · rintro ⟨k1, k2⟩
      by_cases k3 : get L p = -2
      · exact h3 ⟨k3, k1⟩
      · have := hlen k1 k3
        omega
    · rintro ⟨k1, k2⟩
      exact h3 ⟨k2, k1⟩
    · rintro (k | ⟨k1, k2⟩)
      · exact k hp
      · rcases hgo with k3 | k3
        · exact k1 k3
        · exact k2 k3
  refine ⟨hg, hc2, ?_⟩
  unfold setL
  rw [if_pos hc2]
  conv => rhs; rw [← hL]
  unfold setOk
  have a1 := lo_set L p hop
  have a2 := hi_set L p hop
  unfold setOk at a1 a2
  rw [a1, a2]

theorem look_any {a : Int} : ∀ (B : List Rt) (h k : Int), (∃ s ∈ B, has s.p a) → B.foldl (lookF a) h = B.foldl (lookF a) k
  | [], _, _, e => by obtain ⟨s, hs, _⟩ := e; cases hs
  | r :: B, h, k, e => by
    rw [List.foldl_cons, List.foldl_cons]
    by_cases hr : has r.p a
    · have e1 : ∀ x, lookF a x r = r.hop := fun x => by unfold lookF; rw [if_pos hr]
      rw [e1, e1]
    · have e1 : ∀ x, lookF a x r = x := fun x => by unfold lookF; rw [if_neg hr]
      rw [e1, e1]
      refine look_any B h k ?_
      obtain ⟨s, hs, h1⟩ := e
      rcases List.mem_cons.1 hs with rfl | hs
      · exact absurd h1 hr
      · exact ⟨s, hs, h1⟩
theorem look_mid {A M B : List Rt} {a : Int} (h : (∀ s ∈ M, ¬ has s.p a) ∨ ∃ s ∈ B, has s.p a) : look (A ++ M ++ B) a = look (A ++ B) a := by
  unfold look
  rw [List.foldl_append, List.foldl_append, List.foldl_append]
  rcases h with h | h
  · rw [look_keep M _ h]
  · exact look_any B _ _ h
theorem as_mid {L : List Rt} (hw : Wf L) {p : Pf} (hp : Tb.ok p) : ∃ M, L = lo L p ++ M ++ hi L p ∧ ∀ s ∈ M, s.p = p := by
  rcases split_wf hw hp with ⟨_, e, _⟩ | ⟨_, _, e⟩
  · exact ⟨[], by rw [List.append_nil]; exact e, fun s hs => by cases hs⟩
  · exact ⟨[⟨p, get L p⟩], by rw [List.append_assoc]; exact e, fun s hs => by rw [List.mem_singleton.1 hs]⟩
/-- Whether a longer route than the prefix has the address. -/
def longer (L : List Rt) (p : Pf) (a : Int) : Prop := ∃ k, k < L.length ∧ has (nth L k).p a ∧ p.len < (nth L k).p.len
theorem set_apart {L : List Rt} (hw : Wf L) {p : Pf} (hp : Tb.ok p) (hop : Int) {a : Int} (h : ¬ has p a ∨ longer L p a) : look (setOk L p hop) a = look L a := by
  obtain ⟨M, e, hM⟩ := as_mid hw hp
  have key : (¬ has p a) ∨ ∃ s ∈ hi L p, has s.p a := by
    rcases h with h | ⟨k, hk, h1, h2⟩
    · exact .inl h
    · by_cases hpa : has p a
      · refine .inr ⟨nth L k, ?_, h1⟩
        unfold hi
        rw [List.mem_filter]
        refine ⟨nth_mem hk, ?_⟩
        by_cases l1 : less p (nth L k).p
        · simpa using l1
        · exfalso
          by_cases l2 : less (nth L k).p p
          · have := nested l2 h1 hpa
            omega
          · have := less_total hp (hw.ok (nth_mem hk)) l1 l2
            rw [← this] at h2
            omega
      · exact .inl hpa
  have e2 : look (setOk L p hop) a = look (lo L p ++ hi L p) a := by
    unfold setOk
    refine look_mid ?_
    rcases key with k | k
    · exact .inl (fun s hs => by rw [(mid_mem hs).1]; exact k)
    · exact .inr k
  have e3 : look L a = look (lo L p ++ hi L p) a := by
    conv => lhs; rw [e]
    refine look_mid ?_
    rcases key with k | k
    · exact .inl (fun s hs => by rw [hM s hs]; exact k)
    · exact .inr k
  rw [e2, e3]
theorem set_says {L : List Rt} {p : Pf} {hop : Int} (h2 : hop ≠ -2) {a : Int} (h : has p a) (hn : ¬ longer L p a) : look (setOk L p hop) a = hop := by
  unfold setOk mid
  rw [if_neg h2, List.append_assoc]
  refine look_split h (fun s hs hsa => hn ?_)
  obtain ⟨h3, h4⟩ := hi_mem hs
  obtain ⟨k, hk, rfl⟩ := List.getElem_of_mem h3
  exact ⟨k, hk, by rw [nth_eq hk]; exact hsa, by rw [nth_eq hk]; exact nested h4 h hsa⟩
end Go.Proofs.Ytglngngcohcmfaa.Tb
