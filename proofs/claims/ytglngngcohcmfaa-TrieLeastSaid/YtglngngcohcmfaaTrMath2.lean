/- Leaves as routes. -/
import Derived.Test.YtglngngcohcmfaaTrMath
namespace Go.Proofs.Ytglngngcohcmfaa.Tb

theorem chain_cover : ∀ {R : List Rt} {s e a : Int}, Chain s R e → s ≤ a → a < e → ∃ r ∈ R, has r.p a
  | [], s, e, a, h, h1, h2 => by
    have h : s = e := h
    omega
  | r :: R, s, e, a, h, h1, h2 => by
    obtain ⟨k1, k2, k3⟩ := h
    by_cases c : a ≤ lst r.p
    · exact ⟨r, List.mem_cons_self .., k1, by omega, c⟩
    · obtain ⟨q, hq, hqa⟩ := chain_cover k3 (by omega) h2
      exact ⟨q, List.mem_cons_of_mem _ hq, hqa⟩
theorem chain_ok : ∀ {R : List Rt} {s e : Int}, Chain s R e → ∀ r ∈ R, Tb.ok r.p ∧ s ≤ fst r.p
  | [], _, _, _, r, hr => by cases hr
  | q :: R, s, e, h, r, hr => by
    obtain ⟨k1, k2, k3⟩ := h
    rcases List.mem_cons.1 hr with rfl | hr
    · exact ⟨k1, by omega⟩
    · obtain ⟨a1, a2⟩ := chain_ok k3 r hr
      have := (fst_le k1).1
      exact ⟨a1, by omega⟩
theorem chain_pair : ∀ {R : List Rt} {s e : Int}, Chain s R e → R.Pairwise (fun r s => less r.p s.p)
  | [], _, _, _ => List.Pairwise.nil
  | q :: R, s, e, h => by
    obtain ⟨k1, k2, k3⟩ := h
    refine List.pairwise_cons.2 ⟨fun r hr => ?_, chain_pair k3⟩
    obtain ⟨_, a2⟩ := chain_ok k3 r hr
    have := (fst_le k1).1
    exact .inl (by omega)
theorem look_hops {a h : Int} : ∀ (R : List Rt) (s : Int), (∀ r ∈ R, has r.p a → r.hop = h) → (R.foldl (lookF a) s = h) ∨ (R.foldl (lookF a) s = s ∧ ∀ r ∈ R, ¬ has r.p a)
  | [], s, _ => .inr ⟨rfl, fun r hr => by cases hr⟩
  | q :: R, s, hh => by
    rw [List.foldl_cons]
    by_cases c : has q.p a
    · have e : lookF a s q = h := by unfold lookF; rw [if_pos c]; exact hh q (List.mem_cons_self ..) c
      rw [e]
      rcases look_hops R h (fun r hr => hh r (List.mem_cons_of_mem _ hr)) with k | ⟨k, _⟩
      · exact .inl k
      · exact .inl k
    · have e : lookF a s q = s := by unfold lookF; rw [if_neg c]
      rw [e]
      rcases look_hops R s (fun r hr => hh r (List.mem_cons_of_mem _ hr)) with k | ⟨k, k2⟩
      · exact .inl k
      · refine .inr ⟨k, fun r hr => ?_⟩
        rcases List.mem_cons.1 hr with rfl | hr
        · exact c
        · exact k2 r hr
theorem fst00' : fst ⟨0, 0⟩ = 0 := by decide
theorem lst00' : lst ⟨0, 0⟩ + 1 = 256 := by decide
theorem lv_look {hs : List Int} (h : Fit 8 ⟨0, 0⟩ hs) {n : Nat} (hn : n < 256) : look (lv 8 ⟨0, 0⟩ hs) n = hs.getD n 0 := by
  have hc := lv_chain 8 _ _ h
  rw [fst00', lst00'] at hc
  have hh : ∀ r ∈ lv 8 ⟨0, 0⟩ hs, has r.p n → r.hop = hs.getD n 0 := fun r hr ha => by
    have := (lv_hop 8 _ _ h r hr n ha).2
    rwa [fst00', Int.sub_zero, Int.toNat_natCast] at this
  rcases look_hops _ (-1) hh with k | ⟨_, k⟩
  · exact k
  · obtain ⟨r, hr, ha⟩ := chain_cover hc (a := (n : Int)) (by omega) (by omega)
    exact absurd ha (k r hr)
theorem look_hopOK {L : List Rt} (hw : Wf L) (a : Int) : hopOK (look L a) := by
  unfold look
  suffices h : ∀ (R : List Rt) (s : Int), (∀ r ∈ R, hopOK r.hop) → hopOK s → hopOK (R.foldl (lookF a) s) from h L (-1) (fun r hr => (hw.1 r hr).2) (by decide)
  intro R
  induction R with
  | nil => exact fun s _ h => h
  | cons q R ih =>
    intro s h1 h2
    rw [List.foldl_cons]
    refine ih _ (fun r hr => h1 r (List.mem_cons_of_mem _ hr)) ?_
    unfold lookF
    split
    · exact h1 q (List.mem_cons_self ..)
    · exact h2
theorem lv_wf {hs : List Int} (h : Fit 8 ⟨0, 0⟩ hs) (hh : ∀ n, n < 256 → hopOK (hs.getD n 0)) : Wf (lv 8 ⟨0, 0⟩ hs) := by
  have hc := lv_chain 8 _ _ h
  refine ⟨fun r hr => ?_, chain_pair hc⟩
  have hok := (chain_ok hc r hr).1
  refine ⟨hok, ?_⟩
  obtain ⟨h1, h2⟩ := lv_hop 8 _ _ h r hr (fst r.p) (has_first hok)
  rw [h2, fst00', Int.sub_zero]
  have := has_range h1
  exact hh _ (by omega)
theorem chain_nth {R : List Rt} {s e : Int} {k : Nat} (h : Chain s (R.drop k) e) (hk : k < R.length) : Tb.ok (nth R k).p ∧ fst (nth R k).p = s ∧ Chain (lst (nth R k).p + 1) (R.drop (k + 1)) e := by
  rw [List.drop_eq_getElem_cons hk, ← nth_eq hk] at h
  exact h
def cnt (R : List Rt) (a : Int) : Nat := R.countP fun r => decide (has r.p a)
theorem cnt_snoc {R : List Rt} {a : Int} {k : Nat} (hk : k < R.length) : cnt (R.take (k + 1)) a = cnt (R.take k) a + if has (nth R k).p a then 1 else 0 := by
  rw [take_succ hk]
  unfold cnt
  rw [List.countP_append, List.countP_cons, List.countP_nil]
  simp
theorem chain_cnt : ∀ {R : List Rt} {s e a : Int}, Chain s R e → cnt R a = if s ≤ a ∧ a < e then 1 else 0
  | [], s, e, a, h => by
    have h : s = e := h
    rw [if_neg (by omega)]; rfl
  | q :: R, s, e, a, h => by
    obtain ⟨k1, k2, k3⟩ := h
    have ih := chain_cnt (a := a) k3
    have hle := (fst_le k1).1
    have hend : ∀ {R : List Rt} {s e : Int}, Chain s R e → s ≤ e := by
      intro R
      induction R with
      | nil => intro s e h; have h : s = e := h; omega
      | cons q R ih => intro s e h; obtain ⟨a1, a2, a3⟩ := h; have := ih a3; have := (fst_le a1).1; omega
    have he := hend k3
    unfold cnt at ih ⊢
    rw [List.countP_cons, ih]
    by_cases c : has q.p a
    · have c2 := c.2
      rw [if_neg (by omega), if_pos (by simpa using c), if_pos (by omega)]
    · have c2 : ¬ (fst q.p ≤ a ∧ a ≤ lst q.p) := fun k => c ⟨k1, k.1, k.2⟩
      rw [if_neg (by simpa using c : ¬ decide (has q.p a) = true)]
      by_cases d : lst q.p + 1 ≤ a ∧ a < e
      · rw [if_pos d, if_pos (by omega)]
      · rw [if_neg d, if_neg (by omega)]
theorem allOf_ext {L M : List Rt} (h : ∀ n : Nat, n < 256 → look L n = look M n) : allOf L = allOf M := by
  unfold allOf
  apply List.map_congr_left
  intro n hn
  exact h n (List.mem_range.1 hn)
end Go.Proofs.Ytglngngcohcmfaa.Tb
