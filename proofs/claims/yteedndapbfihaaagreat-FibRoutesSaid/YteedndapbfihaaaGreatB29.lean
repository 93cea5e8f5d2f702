/- By the table of as few routes as can be all addresses go as they did; no table has fewer; no route of it can be spared; no program. -/
import Derived.Test.YteedndapbfihaaaGreatB28
import Derived.Test.YteedndapbfihaaaGreatB27
namespace Go.Proofs.YteedndapbfihaaaGreat.Tb

theorem made_mem {f : Int → Bool} {p : Pf} {h : Int} {r : Rt} (hr : r ∈ made f p h) : r = ⟨p, fstW f⟩ := by
  unfold made at hr
  split at hr
  · cases hr
  · simpa using hr
theorem least_in : ∀ (d : Nat) (p : Pf) (hs : List Int) (h : Int), Fit d p hs → HopsOK hs → ∀ r ∈ least d p hs h, Inside r.p p ∧ hopOK r.hop
  | 0, p, hs, h, hf, hh, r, hr => by
    rw [made_mem (show r ∈ made _ p h from hr)]
    have hw := wsh_wish 0 p hs hf hh
    exact ⟨Inside.self hf.1, hw.1 _ (fstW_in hw).1⟩
  | d + 1, p, hs, h, hf, hh, r, hr => by
    unfold least at hr
    rcases List.mem_append.1 hr with hr | hr
    · rw [made_mem hr]
      have hw := wsh_wish (d + 1) p hs hf hh
      exact ⟨Inside.self hf.1, hw.1 _ (fstW_in hw).1⟩
    · split at hr
      · cases hr
      · obtain ⟨i0, i1, _⟩ := inside_child hf.1 hf.lt
        rcases List.mem_append.1 hr with hr | hr
        · obtain ⟨a, b⟩ := least_in d _ _ _ hf.low hh.low r hr
          exact ⟨a.trans i0, b⟩
        · obtain ⟨a, b⟩ := least_in d _ _ _ hf.high hh.high r hr
          exact ⟨a.trans i1, b⟩
theorem inside_less {p q : Pf} (_ : Tb.ok p) (hl : p.len < 8) (hq : Inside q (child p 0) ∨ Inside q (child p 1)) (h0 : Tb.ok p) : less p q := by
  obtain ⟨i0, i1, _⟩ := inside_child h0 hl
  unfold less
  rcases hq with hq | hq
  · have := hq.2.1; have := hq.2.2.2; have := i0.2.1; have := i0.2.2.2
    have : (child p 0).len = p.len + 1 := rfl
    omega
  · have := hq.2.1; have := hq.2.2.2; have := i1.2.1; have := i1.2.2.2
    have : (child p 1).len = p.len + 1 := rfl
    omega
theorem sides_less {p q r : Pf} (h : Tb.ok p) (hl : p.len < 8) (hq : Inside q (child p 0)) (hr : Inside r (child p 1)) : less q r := by
  obtain ⟨_, _, h3⟩ := inside_child h hl
  have := hq.2.2.1; have := hr.2.1; have := (fst_le hq.1).1
  exact .inl (by omega)
theorem least_pair : ∀ (d : Nat) (p : Pf) (hs : List Int) (h : Int), Fit d p hs → HopsOK hs → (least d p hs h).Pairwise (fun r s => less r.p s.p)
  | 0, p, hs, h, hf, hh => by
    show (made _ p h).Pairwise _
    unfold made
    split
    · exact List.Pairwise.nil
    · simp
  | d + 1, p, hs, h, hf, hh => by
    unfold least
    have hm : (made (wsh (d + 1) hs) p h).Pairwise (fun r s => less r.p s.p) := by
      unfold made
      split
      · exact List.Pairwise.nil
      · simp
    by_cases ha : alike hs
    · rw [if_pos ha, List.append_nil]
      exact hm
    · rw [if_neg ha]
      rw [List.pairwise_append, List.pairwise_append]
      refine ⟨hm, ⟨least_pair d _ _ _ hf.low hh.low, least_pair d _ _ _ hf.high hh.high, ?_⟩, ?_⟩
      · intro a ha' b hb
        exact sides_less hf.1 hf.lt (least_in d _ _ _ hf.low hh.low a ha').1 (least_in d _ _ _ hf.high hh.high b hb).1
      · intro a ha' b hb
        rw [made_mem ha']
        rcases List.mem_append.1 hb with hb | hb
        · exact inside_less hf.1 hf.lt (.inl (least_in d _ _ _ hf.low hh.low b hb).1) hf.1
        · exact inside_less hf.1 hf.lt (.inr (least_in d _ _ _ hf.high hh.high b hb).1) hf.1
theorem least_wf {hs : List Int} (hf : Fit 8 ⟨0, 0⟩ hs) (hh : HopsOK hs) (h : Int) : Wf (least 8 ⟨0, 0⟩ hs h) :=
  ⟨fun r hr => ⟨(least_in 8 _ _ h hf hh r hr).1.1, (least_in 8 _ _ h hf hh r hr).2⟩, least_pair 8 _ _ h hf hh⟩
theorem inside_has {q p : Pf} {a : Int} (h : Inside q p) (ha : has q a) (hp : Tb.ok p) : has p a := ⟨hp, by have := h.2.1; have := ha.2; omega, by have := h.2.2.1; have := ha.2; omega⟩
/-- A half has an address, or the other one. -/
theorem half_has {p : Pf} {a : Int} (h : has p a) (hl : p.len < 8) : (has (child p 0) a ∧ ¬ has (child p 1) a) ∨ (has (child p 1) a ∧ ¬ has (child p 0) a) := by
  have hp := h.1
  have c0 := ok_child hp hl (b := 0) (by omega) (by omega)
  have c1 := ok_child hp hl (b := 1) (by omega) (by omega)
  have s0 := span_child hp hl 0
  have s1 := span_child hp hl 1
  have f := fst_child hp hl
  have l := lst_fst hp
  have l0 := lst_fst c0
  have l1 := lst_fst c1
  have h2 := h.2
  by_cases c : a < fst (child p 1)
  · exact .inl ⟨⟨c0, by omega, by omega⟩, fun k => by have := k.2; omega⟩
  · exact .inr ⟨⟨c1, by omega, by omega⟩, fun k => by have := k.2; omega⟩
theorem Fit.get_low {d : Nat} {p : Pf} {hs : List Int} (hf : Fit (d + 1) p hs) {a : Int} (ha : has (child p 0) a) : (lowH hs).getD (a - fst (child p 0)).toNat 0 = hs.getD (a - fst p).toNat 0 := by
  obtain ⟨h1, h2, h3⟩ := hf.half
  have f := fst_child hf.1 hf.lt
  have l0 := lst_fst ha.1
  have h4 := ha.2
  rw [f.1]
  exact lowH_get (by omega)
theorem Fit.get_high {d : Nat} {p : Pf} {hs : List Int} (hf : Fit (d + 1) p hs) {a : Int} (ha : has (child p 1) a) : (highH hs).getD (a - fst (child p 1)).toNat 0 = hs.getD (a - fst p).toNat 0 := by
  obtain ⟨h1, h2, h3⟩ := hf.half
  have f := fst_child hf.1 hf.lt
  have l0 := lst_fst ha.1
  have h4 := ha.2
  rw [highH_get, f.2]
  congr 1
  omega
theorem Fit.at_lt {d : Nat} {p : Pf} {hs : List Int} (hf : Fit d p hs) {a : Int} (ha : has p a) : (a - fst p).toNat < hs.length := by
  have := hf.2.2
  have := lst_fst ha.1
  have := ha.2
  omega
theorem fold_made {f : Int → Bool} {p : Pf} {h a : Int} (ha : has p a) : (made f p h).foldl (lookF a) h = pick f h := by
  unfold made pick
  split
  · rfl
  · show lookF a h ⟨p, fstW f⟩ = _
    unfold lookF
    rw [if_pos ha]
/-- All go as they did. -/
theorem least_fold : ∀ (d : Nat) (p : Pf) (hs : List Int) (h : Int), Fit d p hs → HopsOK hs → ∀ a, has p a → (least d p hs h).foldl (lookF a) h = hs.getD (a - fst p).toNat 0
  | 0, p, hs, h, hf, hh, a, ha => by
    show (made (wsh 0 hs) p h).foldl (lookF a) h = _
    rw [fold_made ha]
    have e := pick_in (wsh_wish 0 p hs hf hh) h
    have e : pick (wsh 0 hs) h = hs.getD 0 0 := by simpa [wsh] using e
    rw [e]
    have h1 : (hs.length : Int) = 1 := by
      rw [hf.2.2]
      have := hf.2.1
      unfold span
      rw [show (8 - p.len).toNat = 0 from by omega]
      rfl
    have := hf.at_lt ha
    rw [show (a - fst p).toNat = 0 from by omega]
  | d + 1, p, hs, h, hf, hh, a, ha => by
    unfold least
    rw [List.foldl_append, fold_made ha]
    by_cases hal : alike hs
    · rw [if_pos hal]
      have e := pick_in (wsh_wish (d + 1) p hs hf hh) h
      rw [(wsh_alike (d + 1) p hs hf hh hal).1] at e ⊢
      have e : pick (fun h => h == hs.getD 0 0) h = hs.getD 0 0 := beq_iff_eq.1 e
      show pick _ h = _
      rw [e]
      exact (hal _ (hf.at_lt ha)).symm
    · rw [if_neg hal, List.foldl_append]
      generalize pick (wsh (d + 1) hs) h = k
      rcases half_has ha hf.lt with ⟨h1, h2⟩ | ⟨h1, h2⟩
      · rw [least_fold d _ _ k hf.low hh.low a h1, hf.get_low h1]
        exact look_keep _ _ (fun r hr hra => h2 (inside_has (least_in d _ _ _ hf.high hh.high r hr).1 hra hf.high.1))
      · rw [look_keep _ _ (fun r hr hra => h2 (inside_has (least_in d _ _ _ hf.low hh.low r hr).1 hra hf.low.1)), least_fold d _ _ k hf.high hh.high a h1, hf.get_high h1]
/-- Routes within a prefix: it itself, those of one half, those of the other one. -/
theorem part_split {p : Pf} (hp : Tb.ok p) (hl : p.len < 8) : ∀ L : List Rt, (∀ r ∈ L, Inside r.p p) → L.Pairwise (fun r s => less r.p s.p) →
    ∃ M A B, L = M ++ (A ++ B) ∧ (M = [] ∨ ∃ h, M = [⟨p, h⟩]) ∧ (∀ r ∈ A, Inside r.p (child p 0)) ∧ (∀ r ∈ B, Inside r.p (child p 1))
  | [], _, _ => ⟨[], [], [], rfl, .inl rfl, fun r hr => (by cases hr), fun r hr => (by cases hr)⟩
  | r :: L, hi, hpw => by
    obtain ⟨k1, k2⟩ := List.pairwise_cons.1 hpw
    obtain ⟨M, A, B, e, hM, hA, hB⟩ := part_split hp hl L (fun s hs => hi s (List.mem_cons_of_mem _ hs)) k2
    have hr := hi r (List.mem_cons_self ..)
    have hM0 : M = [] := by
      rcases hM with h | ⟨h, h'⟩
      · exact h
      · exfalso
        have hm : (⟨p, h⟩ : Rt) ∈ L := by rw [e, h']; simp
        have hl2 := k1 _ hm
        unfold less at hl2
        have := hr.2.1
        have := hr.2.2.2
        dsimp only at hl2
        omega
    subst hM0
    rw [List.nil_append] at e
    rcases inside_split hp hl hr with h | h | h
    · refine ⟨[r], A, B, by rw [e]; rfl, .inr ⟨r.hop, ?_⟩, hA, hB⟩
      cases r
      cases h
      rfl
    · refine ⟨[], r :: A, B, by rw [e]; rfl, .inl rfl, fun s hs => ?_, hB⟩
      rcases List.mem_cons.1 hs with rfl | hs
      · exact h
      · exact hA s hs
    · have hA0 : A = [] := by
        cases A with
        | nil => rfl
        | cons s A =>
          exfalso
          have h1 := k1 s (by rw [e]; simp)
          exact less_asymm h1 (sides_less hp hl (hA s (List.mem_cons_self ..)) h)
      subst hA0
      refine ⟨[], [], r :: B, by rw [e]; rfl, .inl rfl, fun s hs => (by cases hs), fun s hs => ?_⟩
      rcases List.mem_cons.1 hs with rfl | hs
      · exact h
      · exact hB s hs
theorem no_le (f : Int → Bool) (h : Int) : no f h ≤ 1 := by unfold no; split <;> omega
/-- No routes by which all goes so are fewer. -/
theorem least_few : ∀ (d : Nat) (p : Pf) (hs : List Int) (h : Int) (L : List Rt), Fit d p hs → HopsOK hs → (∀ r ∈ L, Inside r.p p) → L.Pairwise (fun r s => less r.p s.p) →
    (∀ a, has p a → L.foldl (lookF a) h = hs.getD (a - fst p).toNat 0) → mn d hs + no (wsh d hs) h ≤ L.length
  | 0, p, hs, h, L, hf, hh, hi, hpw, hg => by
    show 0 + _ ≤ _
    cases L with
    | nil =>
      have e := hg (fst p) (has_first hf.1)
      rw [Int.sub_self] at e
      have e : h = hs.getD 0 0 := e
      have : wsh 0 hs h = true := by simp only [wsh]; rw [e]; simp
      unfold no
      rw [if_pos this]
      simp
    | cons r L =>
      have := no_le (wsh 0 hs) h
      rw [List.length_cons]
      omega
  | d + 1, p, hs, h, L, hf, hh, hi, hpw, hg => by
    obtain ⟨M, A, B, rfl, hM, hA, hB⟩ := part_split hf.1 hf.lt L hi hpw
    obtain ⟨_, p2, _⟩ := List.pairwise_append.1 hpw
    obtain ⟨pA, pB, _⟩ := List.pairwise_append.1 p2
    obtain ⟨i0, i1, _⟩ := inside_child hf.1 hf.lt
    obtain ⟨k, hk, hk2⟩ : ∃ k, (∀ a, has p a → M.foldl (lookF a) h = k) ∧ (M.length = 0 ∧ k = h ∨ M.length = 1) := by
      rcases hM with rfl | ⟨x, rfl⟩
      · exact ⟨h, fun _ _ => rfl, .inl ⟨rfl, rfl⟩⟩
      · refine ⟨x, fun a ha => ?_, .inr rfl⟩
        show lookF a h ⟨p, x⟩ = x
        unfold lookF
        rw [if_pos ha]
    have gA : mn d (lowH hs) + no (wsh d (lowH hs)) k ≤ A.length := least_few d _ _ k A hf.low hh.low hA pA (fun a ha => by
      have hpa := inside_has i0 ha hf.1
      have h1 := hg a hpa
      rw [List.foldl_append, List.foldl_append, hk a hpa] at h1
      rw [hf.get_low ha, ← h1]
      refine (look_keep B _ (fun r hr hra => ?_)).symm
      rcases half_has hpa hf.lt with ⟨_, q⟩ | ⟨_, q⟩
      · exact q (inside_has (hB r hr) hra hf.high.1)
      · exact q ha)
    have gB : mn d (highH hs) + no (wsh d (highH hs)) k ≤ B.length := least_few d _ _ k B hf.high hh.high hB pB (fun a ha => by
      have hpa := inside_has i1 ha hf.1
      have h1 := hg a hpa
      rw [List.foldl_append, List.foldl_append, hk a hpa] at h1
      rw [hf.get_high ha, ← h1]
      rw [look_keep A _ (fun r hr hra => ?_)]
      rcases half_has hpa hf.lt with ⟨_, q⟩ | ⟨_, q⟩
      · exact q ha
      · exact q (inside_has (hA r hr) hra hf.low.1))
    have hn := no_mix (wsh_wish d _ _ hf.low hh.low) (wsh_wish d _ _ hf.high hh.high) k
    have n1 := no_le (wsh (d + 1) hs) h
    have n2 := no_le (wsh (d + 1) hs) k
    rw [List.length_append, List.length_append]
    show mn d (lowH hs) + mn d (highH hs) + (if both (wsh d (lowH hs)) (wsh d (highH hs)) then 0 else 1) + _ ≤ _
    have e : mix (wsh d (lowH hs)) (wsh d (highH hs)) = wsh (d + 1) hs := rfl
    rw [e] at hn
    generalize (if both (wsh d (lowH hs)) (wsh d (highH hs)) then 0 else 1) = x at *
    rcases hk2 with ⟨q1, rfl⟩ | q1
    · omega
    · omega
theorem allOf_hops {L : List Rt} (hw : Wf L) : HopsOK (allOf L) := fun k hk => by
  rw [allOf_len] at hk
  unfold allOf
  rw [List.getD_eq_getElem?_getD, List.getElem?_map, List.getElem?_range hk]
  exact look_hopOK hw _
theorem fit_allOf (L : List Rt) : Fit 8 ⟨0, 0⟩ (allOf L) := ⟨by decide, by decide, by rw [allOf_len]; decide⟩
theorem allOf_at (L : List Rt) {n : Nat} (h : n < 256) : (allOf L).getD n 0 = look L n := by
  unfold allOf
  rw [List.getD_eq_getElem?_getD, List.getElem?_map, List.getElem?_range h]
  rfl
/-- The table of as few as can be. -/
def few (L : List Rt) : List Rt := least 8 ⟨0, 0⟩ (allOf L) (-1)
theorem few_wf {L : List Rt} (hw : Wf L) : Wf (few L) := least_wf (fit_allOf L) (allOf_hops hw) _
theorem has_all {n : Nat} (h : n < 256) : has ⟨0, 0⟩ (n : Int) := by
  refine ⟨by decide, ?_, ?_⟩
  · rw [fst00']; omega
  · have := lst00'; omega
theorem few_all {L : List Rt} (hw : Wf L) : allOf (few L) = allOf L := by
  refine allOf_ext (fun n hn => ?_)
  have h := least_fold 8 _ _ (-1) (fit_allOf L) (allOf_hops hw) n (has_all hn)
  rw [fst00', Int.sub_zero, Int.toNat_natCast, allOf_at L hn] at h
  exact h
theorem few_len {L : List Rt} (hw : Wf L) : (few L).length = mn 8 (allOf L) + no (wsh 8 (allOf L)) (-1) := least_len 8 _ _ _ (fit_allOf L) (allOf_hops hw)
theorem inside_all {p : Pf} (h : Tb.ok p) : Inside p ⟨0, 0⟩ := by
  have := fst_ge h
  have := fst_le h
  have := lst00'
  refine ⟨h, by rw [fst00']; omega, by omega, h.1⟩
theorem few_fewest {L M : List Rt} (hw : Wf L) (hm : Wf M) (h : allOf M = allOf L) : (few L).length ≤ M.length := by
  rw [few_len hw]
  refine least_few 8 ⟨0, 0⟩ (allOf L) (-1) M (fit_allOf L) (allOf_hops hw) (fun r hr => inside_all (hm.1 r hr).1) hm.2 (fun a ha => ?_)
  have hr := has_range ha
  obtain ⟨n, rfl⟩ := Int.eq_ofNat_of_zero_le hr.1
  have hn : n < 256 := by omega
  rw [fst00', Int.sub_zero, Int.toNat_natCast, ← h, allOf_at M hn]
  rfl
/-- Leaves are more than routes. -/
theorem mn_lv : ∀ (d : Nat) (p : Pf) (hs : List Int), Fit d p hs → HopsOK hs → mn d hs + 1 ≤ (lv d p hs).length
  | 0, p, hs, _, _ => by simp [mn, lv]
  | d + 1, p, hs, hf, hh => by
    unfold lv
    by_cases ha : alike hs
    · rw [if_pos ha, (wsh_alike (d + 1) p hs hf hh ha).2]
      simp
    · rw [if_neg ha, List.length_append]
      have h0 := mn_lv d _ _ hf.low hh.low
      have h1 := mn_lv d _ _ hf.high hh.high
      show mn d (lowH hs) + mn d (highH hs) + _ + 1 ≤ _
      split <;> omega
end Go.Proofs.YteedndapbfihaaaGreat.Tb
/- One route less is not enough; the count of the document's own answer; no program. -/
namespace Go.Proofs.YteedndapbfihaaaGreat.Tb

theorem setL_eq {L : List Rt} {p : Pf} {hop : Int} (h : setC L p hop = 0) : setL L p hop = setOk L p hop := by unfold setL; rw [if_pos h]
end Go.Proofs.YteedndapbfihaaaGreat.Tb
/- Changes of a table: which they are, and what they make of it; no program. -/
namespace Go.Proofs.YteedndapbfihaaaGreat.Tb

/-- A change. -/
structure Ch where
  p : Pf
  old : Int
  new : Int
instance : DecidableEq Ch := fun a b => decidable_of_iff (a.p = b.p ∧ a.old = b.old ∧ a.new = b.new) ⟨fun h => by cases a; cases b; simp_all, fun h => by rw [h]; exact ⟨rfl, rfl, rfl⟩⟩
instance : Inhabited Ch := ⟨⟨⟨0, 0⟩, 0, 0⟩⟩
end Go.Proofs.YteedndapbfihaaaGreat.Tb
/- What the few say of any address at all. -/
namespace Go.Proofs.YteedndapbfihaaaGreat.Tb

theorem look_fold_out {a : Int} : ∀ (L : List Rt) (h : Int), (∀ r ∈ L, ¬ has r.p a) → L.foldl (lookF a) h = h
  | [], _, _ => rfl
  | r :: T, h, hh => by
    rw [List.foldl_cons]
    have : lookF a h r = h := by unfold lookF; rw [if_neg (hh r (List.mem_cons_self ..))]
    rw [this]
    exact look_fold_out T h (fun s hs => hh s (List.mem_cons_of_mem _ hs))
theorem look_out {L : List Rt} {a : Int} (h : ¬ (0 ≤ a ∧ a < 256)) : look L a = -1 := look_fold_out L _ (fun _ _ k => h (has_range k))
theorem look_of_all {L M : List Rt} (h : allOf L = allOf M) (a : Int) : look L a = look M a := by
  by_cases k : 0 ≤ a ∧ a < 256
  · obtain ⟨n, rfl⟩ : ∃ n : Nat, a = n := ⟨a.toNat, by omega⟩
    have hn : n < 256 := by omega
    rw [← allOf_at _ hn, ← allOf_at _ hn, h]
  · rw [look_out k, look_out k]
theorem few_look {L : List Rt} (hw : Wf L) (a : Int) : look L a = look (few L) a := look_of_all (few_all hw).symm a
end Go.Proofs.YteedndapbfihaaaGreat.Tb
/- A post: a net, and whose prefixes are whose; what steps do; a node's tables. -/
namespace Go.Proofs.YteedndapbfihaaaGreat.Fb

/-- A net, and owners. -/
structure PT where
  t : Nt.NT
  o : List Tb.Rt
def begunP : PT := ⟨Nt.begun, []⟩
def ownH (a n : Int) : Int := if n = 0 then -2 else a
def ownT (o : List Tb.Rt) (a n pl pb : Int) : List Tb.Rt × Int := if Nt.isN a then (Tb.setL o ⟨pl, pb⟩ (ownH a n), Tb.setC o ⟨pl, pb⟩ (ownH a n)) else (o, 1)
def doP (s : PT) (k a b n pl pb : Int) : PT × Int :=
  if k = 7 then (⟨s.t, (ownT s.o a n pl pb).1⟩, (ownT s.o a n pl pb).2) else (⟨(Nt.doT s.t k a b n).1, s.o⟩, (Nt.doT s.t k a b n).2)
/-- Behind the first k steps of a script of 6 cells each. -/
def runF (s : PT) (X : Nat → Int) : Nat → PT
  | 0 => s
  | k + 1 => (doP (runF s X k) (X (k * 6)) (X (k * 6 + 1)) (X (k * 6 + 2)) (X (k * 6 + 3)) (X (k * 6 + 4)) (X (k * 6 + 5))).1
/-- Owners: routes that may stand in a table, each to a node. -/
structure OOk (o : List Tb.Rt) : Prop where
  wf : Tb.Wf o
  len : o.length ≤ 40
  hop : ∀ r ∈ o, Nt.isN r.hop
theorem OOk.nil : OOk [] := ⟨Tb.Wf.nil, by simp, fun _ h => by cases h⟩
theorem OOk.set {o : List Tb.Rt} (h : OOk o) (p : Tb.Pf) {hop : Int} (hh : hop = -2 ∨ Nt.isN hop) : OOk (Tb.setL o p hop) := by
  have h1 := Tb.setL_ok h.wf h.len p hop
  refine ⟨h1.1, h1.2, fun r hr => ?_⟩
  unfold Tb.setL at hr
  split at hr
  · unfold Tb.setOk at hr
    rcases List.mem_append.1 hr with hr | hr
    · rcases List.mem_append.1 hr with hr | hr
      · exact h.hop r (Tb.lo_mem hr).1
      · obtain ⟨e, hne⟩ := Tb.mid_mem hr
        rw [e]
        rcases hh with hh | hh
        · exact absurd hh hne
        · exact hh
    · exact h.hop r (Tb.hi_mem hr).1
  · exact h.hop r hr
theorem ownH_ok {a n : Int} (h : Nt.isN a) : ownH a n = -2 ∨ Nt.isN (ownH a n) := by
  unfold ownH
  split
  · exact .inl rfl
  · exact .inr h
theorem OOk.own {o : List Tb.Rt} (h : OOk o) (a n pl pb : Int) : OOk (ownT o a n pl pb).1 := by
  unfold ownT
  split
  · exact h.set _ (ownH_ok (by assumption))
  · exact h
structure POk (s : PT) (n : Nat) : Prop where
  str : Nt.Str s.t n
  o : OOk s.o
theorem POk.begun : POk begunP 0 := ⟨Nt.Str.begun, OOk.nil⟩
theorem POk.doP {s : PT} {n : Nat} (h : POk s n) (k a b c pl pb : Int) : POk (Fb.doP s k a b c pl pb).1 (n + 1) := by
  unfold Fb.doP
  split
  · exact ⟨h.str.mono (Nat.le_succ n), h.o.own _ _ _ _⟩
  · exact ⟨h.str.doT k a b c, h.o⟩
theorem POk.runF {s : PT} {n : Nat} (h : POk s n) (X : Nat → Int) : ∀ k, POk (Fb.runF s X k) (n + k)
  | 0 => h
  | k + 1 => (POk.runF h X k).doP _ _ _ _ _ _
theorem doP_own (s : PT) (a b n pl pb : Int) : doP s 7 a b n pl pb = (⟨s.t, (ownT s.o a n pl pb).1⟩, (ownT s.o a n pl pb).2) := by unfold doP; rw [if_pos rfl]
theorem doP_net (s : PT) {k : Int} (h : k ≠ 7) (a b n pl pb : Int) : doP s k a b n pl pb = (⟨(Nt.doT s.t k a b n).1, s.o⟩, (Nt.doT s.t k a b n).2) := by unfold doP; rw [if_neg h]
theorem ownT_no (o : List Tb.Rt) {a : Int} (h : ¬ Nt.isN a) (n pl pb : Int) : ownT o a n pl pb = (o, 1) := by unfold ownT; rw [if_neg h]
theorem ownT_yes (o : List Tb.Rt) {a : Int} (h : Nt.isN a) (n pl pb : Int) : ownT o a n pl pb = (Tb.setL o ⟨pl, pb⟩ (ownH a n), Tb.setC o ⟨pl, pb⟩ (ownH a n)) := by unfold ownT; rw [if_pos h]

/-- A route more, behind all others. -/
theorem set_snoc {L : List Tb.Rt} {r : Tb.Rt} (h : Tb.Wf (L ++ [r])) (hl : L.length < 40) : Tb.setC L r.p r.hop = 0 ∧ Tb.setL L r.p r.hop = L ++ [r] := by
  have hr := h.1 r (by simp)
  have hless := (Tb.wf_app h).2
  have hne : ∀ s ∈ L, s.p ≠ r.p := fun s hs e => by
    have := hless s hs
    rw [e] at this
    exact Tb.less_irrefl _ this
  have hg : Tb.get L r.p = -2 := Tb.get_none hne
  have h2 : r.hop ≠ -2 := by have := hr.2; unfold Tb.hopOK at this; omega
  have hc : Tb.setC L r.p r.hop = 0 := by
    unfold Tb.setC
    rw [if_neg (by rintro (h1 | h1); exact h1 hr.1; exact h1.2 hr.2), if_neg (fun e => h2 e.2), if_neg (fun e => by omega)]
  refine ⟨hc, ?_⟩
  unfold Tb.setL
  rw [if_pos hc]
  unfold Tb.setOk Tb.mid
  rw [if_neg h2]
  have h3 : Tb.lo L r.p = L := List.filter_eq_self.2 (fun s hs => by simpa using hless s hs)
  have h4 : Tb.hi L r.p = [] := List.filter_eq_nil_iff.2 (fun s hs => by simpa using Tb.less_asymm (hless s hs))
  rw [h3, h4, List.append_nil]

/-- A node's table: of each prefix the next node on the way to its owner. -/
def fullR (t : Nt.NT) (n : Nat) (r : Tb.Rt) : Tb.Rt := ⟨r.p, hopT t r.hop n⟩
def full (t : Nt.NT) (o : List Tb.Rt) (n : Nat) : List Tb.Rt := o.map (fullR t n)
theorem full_len (t : Nt.NT) (o : List Tb.Rt) (n : Nat) : (full t o n).length = o.length := by simp [full]
theorem full_take (t : Nt.NT) (o : List Tb.Rt) (n k : Nat) (hk : k < o.length) : full t (o.take (k + 1)) n = full t (o.take k) n ++ [fullR t n (Tb.nth o k)] := by
  unfold full; rw [Tb.take_succ hk, List.map_append]; rfl
theorem hop_any {t : Nt.NT} {m dst p : Nat} (h : Nt.Str t m) (hd : dst < 6) (hp : p < 6) (hne : p ≠ dst) : hopT t dst p = -1 ∨ ∃ f : Nat, f < 6 ∧ hopT t dst p = f ∧ 0 < t.C p f ∧ Nt.Bet t dst p f := by
  by_cases hN : Nt.isN (hopT t dst p)
  · exact .inr (Nt.hop_step h hd hp hne hN)
  · refine .inl (Classical.byContradiction fun e => hN ?_)
    have e1 : hopT t dst p = (t.N p).wH dst := by
      unfold hopT
      rw [Int.toNat_natCast, Nd.wayAt, if_pos ⟨by omega, by omega⟩, Int.toNat_natCast]
      rfl
    rw [e1] at e ⊢
    have hm : dst ≠ (t.N p).me := by rw [h.ok.me p hp]; exact fun e => hne e.symm
    obtain ⟨f, a1, a2, _⟩ := ((h.nice p hp).bst.way dst hd hm).via e
    exact ⟨by omega, by omega⟩
theorem hop_ok {t : Nt.NT} {m p : Nat} (h : Nt.Str t m) {d : Int} (hd : Nt.isN d) (hp : p < 6) : Tb.hopOK (hopT t d p) := by
  obtain ⟨d0, d1⟩ := hd
  obtain ⟨dst, rfl⟩ := Int.eq_ofNat_of_zero_le d0
  unfold Tb.hopOK
  by_cases hne : p = dst
  · subst hne
    rw [Nt.hop_self h (by omega)]; omega
  · rcases hop_any h (by omega) hp hne with e | ⟨f, hf, e, _⟩
    · rw [e]; omega
    · rw [e]; omega
theorem full_wf {t : Nt.NT} {m n : Nat} (h : Nt.Str t m) (hn : n < 6) {o : List Tb.Rt} (ho : OOk o) : Tb.Wf (full t o n) := by
  refine ⟨fun r hr => ?_, ?_⟩
  · obtain ⟨s, hs, rfl⟩ := List.mem_map.1 hr
    exact ⟨(ho.wf.1 s hs).1, hop_ok h (ho.hop s hs) hn⟩
  · unfold full
    rw [List.pairwise_map]
    exact ho.wf.2
theorem OOk.take {o : List Tb.Rt} (h : OOk o) (k : Nat) : OOk (o.take k) :=
  ⟨⟨fun r hr => h.wf.1 r (List.mem_of_mem_take hr), h.wf.2.sublist (List.take_sublist _ _)⟩, by have := h.len; rw [List.length_take]; omega, fun r hr => h.hop r (List.mem_of_mem_take hr)⟩
/-- One route more of a full table. -/
theorem full_step {t : Nt.NT} {m n k : Nat} (h : Nt.Str t m) (hn : n < 6) {o : List Tb.Rt} (ho : OOk o) (hk : k < o.length) :
    Tb.setL (full t (o.take k) n) (Tb.nth o k).p (hopT t (Tb.nth o k).hop n) = full t (o.take (k + 1)) n ∧ Tb.setC (full t (o.take k) n) (Tb.nth o k).p (hopT t (Tb.nth o k).hop n) = 0 := by
  have hw := full_wf h hn (ho.take (k + 1))
  rw [full_take t o n k hk] at hw ⊢
  have hl := ho.len
  have := set_snoc hw (by rw [full_len, List.length_take]; omega)
  exact ⟨this.2, this.1⟩
/-- Where a letter goes next. -/
def via (t : Nt.NT) (owner : Int) (n : Nat) : Int := if owner = -1 then -1 else hopT t owner n
theorem fold_map {a : Int} {t : Nt.NT} {n : Nat} : ∀ (L : List Tb.Rt) (h : Int), (∀ r ∈ L, Nt.isN r.hop) → (L.map (fullR t n)).foldl (Tb.lookF a) (via t h n) = via t (L.foldl (Tb.lookF a) h) n
  | [], _, _ => rfl
  | r :: L, h, hh => by
    have hr := hh r (by simp)
    rw [List.map_cons, List.foldl_cons, List.foldl_cons, ← fold_map L _ (fun s hs => hh s (List.mem_cons_of_mem _ hs))]
    congr 1
    unfold Tb.lookF
    by_cases e : Tb.has r.p a
    · rw [if_pos e]
      rw [if_pos (show Tb.has (fullR t n r).p a from e)]
      unfold via
      rw [if_neg (by unfold Nt.isN at hr; omega)]
      rfl
    · rw [if_neg e, if_neg (show ¬ Tb.has (fullR t n r).p a from e)]
theorem full_look {t : Nt.NT} {o : List Tb.Rt} (ho : OOk o) (n : Nat) (a : Int) : Tb.look (full t o n) a = via t (Tb.look o a) n := by
  have h := fold_map (a := a) (t := t) (n := n) o (-1) ho.hop
  rw [show via t (-1) n = -1 from if_pos rfl] at h
  exact h
theorem owner_cases {o : List Tb.Rt} (ho : OOk o) (a : Int) : Tb.look o a = -1 ∨ Nt.isN (Tb.look o a) := by
  have : ∀ (L : List Tb.Rt) (h : Int), (h = -1 ∨ Nt.isN h) → (∀ r ∈ L, Nt.isN r.hop) → L.foldl (Tb.lookF a) h = -1 ∨ Nt.isN (L.foldl (Tb.lookF a) h) := by
    intro L
    induction L with
    | nil => exact fun _ h _ => h
    | cons r L ih =>
      intro h hh hr
      refine ih _ ?_ (fun s hs => hr s (List.mem_cons_of_mem _ hs))
      unfold Tb.lookF
      split
      · exact .inr (hr r (by simp))
      · exact hh
  exact this o (-1) (.inl rfl) ho.hop
/-- As few routes as can be. -/
def small (t : Nt.NT) (o : List Tb.Rt) (n : Nat) : List Tb.Rt := Tb.few (full t o n)
theorem small_ok {t : Nt.NT} {m n : Nat} (h : Nt.Str t m) (hn : n < 6) {o : List Tb.Rt} (ho : OOk o) : Tb.Wf (small t o n) ∧ (small t o n).length ≤ (full t o n).length ∧ (small t o n).length ≤ 40 ∧ Tb.allOf (small t o n) = Tb.allOf (full t o n) := by
  have hw := full_wf h hn ho
  have hf := Tb.few_fewest hw hw rfl
  have := ho.len
  rw [full_len] at hf
  exact ⟨Tb.few_wf hw, by rw [full_len]; exact hf, Nat.le_trans hf this, Tb.few_all hw⟩
theorem small_look {t : Nt.NT} {m n : Nat} (h : Nt.Str t m) (hn : n < 6) {o : List Tb.Rt} (ho : OOk o) (a : Int) : Tb.look (small t o n) a = via t (Tb.look o a) n := by
  rw [← full_look ho]
  exact (Tb.few_look (full_wf h hn ho) a).symm
/-- The node itself, just where it is the owner. -/
theorem via_self {t : Nt.NT} {m n : Nat} (h : Nt.Str t m) (hn : n < 6) {d : Int} (hd : Nt.isN d) : via t d n = n ↔ d = n := by
  obtain ⟨d0, d1⟩ := hd
  obtain ⟨dst, rfl⟩ := Int.eq_ofNat_of_zero_le d0
  unfold via
  rw [if_neg (by omega)]
  constructor
  · intro e
    apply Classical.byContradiction
    intro hne
    rcases hop_any h (show dst < 6 by omega) hn (fun e' => hne (by omega)) with e1 | ⟨f, hf, e1, _, hb⟩
    · rw [e] at e1; omega
    · have : f = n := by rw [e] at e1; omega
      subst this
      exact hb.irr
  · intro e
    have : dst = n := by omega
    subst this
    exact Nt.hop_self h hn
end Go.Proofs.YteedndapbfihaaaGreat.Fb
