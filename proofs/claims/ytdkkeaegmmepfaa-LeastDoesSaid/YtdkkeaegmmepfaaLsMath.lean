/- Tables of as few routes as can be: what the functions compute, and that no table has fewer; no program. -/
import Derived.Test.YtdkkeaegmmepfaaTrMath
namespace Go.Proofs.Ytdkkeaegmmepfaa.Tb

def hops7 : List Int := [-1, 0, 1, 2, 3, 4, 5]
theorem mem7 {h : Int} : h ∈ hops7 ↔ hopOK h := by
  unfold hops7 hopOK
  simp only [List.mem_cons, List.not_mem_nil, or_false]
  omega
def both (a b : Int → Bool) : Bool := hops7.any fun h => a h && b h
def mix (a b : Int → Bool) : Int → Bool := fun h => if both a b then a h && b h else a h || b h
/-- Which hops a part wishes. -/
def wsh : Nat → List Int → Int → Bool
  | 0, hs => fun h => h == hs.getD 0 0
  | d + 1, hs => mix (wsh d (lowH hs)) (wsh d (highH hs))
/-- How few routes beneath a part are enough. -/
def mn : Nat → List Int → Nat
  | 0, _ => 0
  | d + 1, hs => mn d (lowH hs) + mn d (highH hs) + if both (wsh d (lowH hs)) (wsh d (highH hs)) then 0 else 1
/-- All of them may be hops. -/
def HopsOK (hs : List Int) : Prop := ∀ k, k < hs.length → hopOK (hs.getD k 0)
theorem HopsOK.low {hs : List Int} (h : HopsOK hs) : HopsOK (lowH hs) := fun k hk => by
  rw [lowH_len] at hk
  rw [lowH_get hk]
  exact h k (by omega)
theorem HopsOK.high {hs : List Int} (h : HopsOK hs) : HopsOK (highH hs) := fun k hk => by
  rw [highH_len] at hk
  rw [highH_get]
  exact h _ (by omega)
theorem both_iff {a b : Int → Bool} : both a b = true ↔ ∃ h, hopOK h ∧ a h = true ∧ b h = true := by
  unfold both
  rw [List.any_eq_true]
  constructor
  · rintro ⟨h, h1, h2⟩
    rw [Bool.and_eq_true] at h2
    exact ⟨h, mem7.1 h1, h2⟩
  · rintro ⟨h, h1, h2⟩
    exact ⟨h, mem7.2 h1, by rw [Bool.and_eq_true]; exact h2⟩
/-- What can be wished: hops, one at least. -/
def Wish (f : Int → Bool) : Prop := (∀ h, f h = true → hopOK h) ∧ ∃ h, f h = true
theorem Wish.mix {a b : Int → Bool} (ha : Wish a) (hb : Wish b) : Wish (mix a b) := by
  by_cases h : both a b = true
  · have e : ∀ k, Tb.mix a b k = (a k && b k) := fun k => by unfold Tb.mix; rw [if_pos h]
    refine ⟨fun k hk => ?_, ?_⟩
    · rw [e, Bool.and_eq_true] at hk
      exact ha.1 k hk.1
    · obtain ⟨k, _, h1, h2⟩ := both_iff.1 h
      exact ⟨k, by rw [e, h1, h2]; rfl⟩
  · have e : ∀ k, Tb.mix a b k = (a k || b k) := fun k => by unfold Tb.mix; rw [if_neg h]
    refine ⟨fun k hk => ?_, ?_⟩
    · rw [e, Bool.or_eq_true] at hk
      rcases hk with hk | hk
      · exact ha.1 k hk
      · exact hb.1 k hk
    · obtain ⟨k, hk⟩ := ha.2
      exact ⟨k, by rw [e, hk]; rfl⟩
theorem wsh_wish : ∀ (d : Nat) (p : Pf) (hs : List Int), Fit d p hs → HopsOK hs → Wish (wsh d hs)
  | 0, p, hs, hf, hh => ⟨fun h hk => by
      have e : h = hs.getD 0 0 := by simpa [wsh] using hk
      rw [e]
      exact hh 0 hf.pos, hs.getD 0 0, by simp [wsh]⟩
  | d + 1, p, hs, hf, hh => Wish.mix (wsh_wish d _ _ hf.low hh.low) (wsh_wish d _ _ hf.high hh.high)
theorem mix_same {x : Int} (hx : hopOK x) : mix (fun h => h == x) (fun h => h == x) = fun h => h == x := by
  have hb : both (fun h => h == x) (fun h => h == x) = true := both_iff.2 ⟨x, hx, by simp, by simp⟩
  funext h
  unfold mix
  rw [if_pos hb, Bool.and_self]
theorem wsh_alike : ∀ (d : Nat) (p : Pf) (hs : List Int), Fit d p hs → HopsOK hs → alike hs → (wsh d hs = fun h => h == hs.getD 0 0) ∧ mn d hs = 0
  | 0, _, _, _, _, _ => ⟨rfl, rfl⟩
  | d + 1, p, hs, hf, hh, ha => by
    obtain ⟨h1, h2, h3⟩ := (alike_half hf).1 ha
    obtain ⟨e1, m1⟩ := wsh_alike d _ _ hf.low hh.low h1
    obtain ⟨e2, m2⟩ := wsh_alike d _ _ hf.high hh.high h2
    have e0 : (lowH hs).getD 0 0 = hs.getD 0 0 := by
      have := hf.half
      have := hf.low.pos
      rw [lowH_len] at this
      exact lowH_get this
    rw [← h3, e0] at e2
    rw [e0] at e1
    have hx := hh 0 hf.pos
    refine ⟨?_, ?_⟩
    · show mix (wsh d (lowH hs)) (wsh d (highH hs)) = _
      rw [e1, e2]
      exact mix_same hx
    · show mn d (lowH hs) + mn d (highH hs) + _ = 0
      rw [m1, m2, e1, e2, if_pos (both_iff.2 ⟨hs.getD 0 0, hx, by simp, by simp⟩)]
/-- The least hop that is wished. -/
def fstW (f : Int → Bool) : Int := (hops7.filter f).headD 0
theorem fstW_in {f : Int → Bool} (h : Wish f) : f (fstW f) = true ∧ ∀ k, f k = true → fstW f ≤ k := by
  obtain ⟨k, hk⟩ := h.2
  have hm : k ∈ hops7.filter f := List.mem_filter.2 ⟨mem7.2 (h.1 k hk), hk⟩
  have hp : (hops7.filter f).Pairwise (· < ·) := List.Pairwise.filter f (by unfold hops7; decide)
  unfold fstW
  cases e : hops7.filter f with
  | nil => rw [e] at hm; cases hm
  | cons x r =>
    rw [e] at hp
    have hx : x ∈ hops7.filter f := by rw [e]; exact List.mem_cons_self
    refine ⟨(List.mem_filter.1 hx).2, fun j hj => ?_⟩
    have hj' : j ∈ hops7.filter f := List.mem_filter.2 ⟨mem7.2 (h.1 j hj), hj⟩
    rw [e] at hj'
    rcases List.mem_cons.1 hj' with rfl | hj'
    · exact Int.le_refl _
    · have := (List.pairwise_cons.1 hp).1 j hj'
      show x ≤ j
      omega
def pick (f : Int → Bool) (h : Int) : Int := if f h then h else fstW f
theorem pick_in {f : Int → Bool} (h : Wish f) (k : Int) : f (pick f k) = true := by
  unfold pick
  by_cases e : f k = true
  · rw [if_pos e]; exact e
  · rw [if_neg e]; exact (fstW_in h).1
def made (f : Int → Bool) (p : Pf) (h : Int) : List Rt := if f h then [] else [⟨p, fstW f⟩]
/-- Routes for a part, in which all goes to h, if there is no route. -/
def least : Nat → Pf → List Int → Int → List Rt
  | 0, p, hs, h => made (wsh 0 hs) p h
  | d + 1, p, hs, h => made (wsh (d + 1) hs) p h ++ if alike hs then [] else least d (child p 0) (lowH hs) (pick (wsh (d + 1) hs) h) ++ least d (child p 1) (highH hs) (pick (wsh (d + 1) hs) h)
def no (f : Int → Bool) (h : Int) : Nat := if f h then 0 else 1
theorem made_len (f : Int → Bool) (p : Pf) (h : Int) : (made f p h).length = no f h := by
  unfold made no
  split <;> rfl
theorem no_mix {a b : Int → Bool} (ha : Wish a) (_ : Wish b) (h : Int) : no a h + no b h = (if both a b then 0 else 1) + no (mix a b) h ∨ (if both a b then 0 else 1) + 1 ≤ no a h + no b h := by
  by_cases e : both a b = true
  · have hm : mix a b h = (a h && b h) := by unfold mix; rw [if_pos e]
    unfold no
    rw [if_pos e, hm]
    cases a h <;> cases b h <;> simp
  · have hm : mix a b h = (a h || b h) := by unfold mix; rw [if_neg e]
    have hn : ¬ (a h = true ∧ b h = true) := fun k => e (both_iff.2 ⟨h, ha.1 h k.1, k⟩)
    unfold no
    rw [if_neg e, hm]
    cases h1 : a h <;> cases h2 : b h <;> simp [h1, h2] at hn ⊢
theorem no_pick {a b : Int → Bool} (ha : Wish a) (hb : Wish b) (h : Int) : no a (pick (mix a b) h) + no b (pick (mix a b) h) = if both a b then 0 else 1 := by
  have hp := pick_in (ha.mix hb) h
  generalize pick (mix a b) h = k at *
  by_cases e : both a b = true
  · have hm : mix a b k = (a k && b k) := by unfold mix; rw [if_pos e]
    rw [hm, Bool.and_eq_true] at hp
    unfold no
    rw [if_pos e, hp.1, hp.2]
    rfl
  · have hm : mix a b k = (a k || b k) := by unfold mix; rw [if_neg e]
    have hn : ¬ (a k = true ∧ b k = true) := fun q => e (both_iff.2 ⟨k, ha.1 k q.1, q⟩)
    rw [hm] at hp
    unfold no
    rw [if_neg e]
    cases h1 : a k <;> cases h2 : b k <;> simp [h1, h2] at hn hp ⊢
/-- How many routes. -/
theorem least_len : ∀ (d : Nat) (p : Pf) (hs : List Int) (h : Int), Fit d p hs → HopsOK hs → (least d p hs h).length = mn d hs + no (wsh d hs) h
  | 0, p, hs, h, _, _ => by
    show (made _ p h).length = 0 + _
    rw [made_len, Nat.zero_add]
  | d + 1, p, hs, h, hf, hh => by
    unfold least
    rw [List.length_append, made_len]
    by_cases ha : alike hs
    · rw [if_pos ha, (wsh_alike (d + 1) p hs hf hh ha).2]
      simp
    · rw [if_neg ha, List.length_append, least_len d _ _ _ hf.low hh.low, least_len d _ _ _ hf.high hh.high]
      have := no_pick (wsh_wish d _ _ hf.low hh.low) (wsh_wish d _ _ hf.high hh.high) h
      show _ = mn d (lowH hs) + mn d (highH hs) + _ + _
      rw [← this]
      show _ + (_ + no _ (pick (mix _ _) h) + (_ + no _ (pick (mix _ _) h))) = _
      omega
/-- A part of a prefix. -/
def Inside (q p : Pf) : Prop := Tb.ok q ∧ fst p ≤ fst q ∧ lst q ≤ lst p ∧ p.len ≤ q.len
theorem Inside.self {p : Pf} (h : Tb.ok p) : Inside p p := ⟨h, Int.le_refl _, Int.le_refl _, Int.le_refl _⟩
theorem Inside.trans {a b c : Pf} (h : Inside a b) (k : Inside b c) : Inside a c := by
  obtain ⟨h1, h2, h3, h4⟩ := h
  obtain ⟨_, k2, k3, k4⟩ := k
  exact ⟨h1, by omega, by omega, by omega⟩
theorem inside_child {p : Pf} (h : Tb.ok p) (hl : p.len < 8) : Inside (child p 0) p ∧ Inside (child p 1) p ∧ lst (child p 0) < fst (child p 1) := by
  have c0 := ok_child h hl (b := 0) (by omega) (by omega)
  have c1 := ok_child h hl (b := 1) (by omega) (by omega)
  have s0 := span_child h hl 0
  have s1 := span_child h hl 1
  have f := fst_child h hl
  have l := lst_fst h
  have l0 := lst_fst c0
  have l1 := lst_fst c1
  have p0 := span_pos c0
  have hc : (child p 0).len = p.len + 1 ∧ (child p 1).len = p.len + 1 := ⟨rfl, rfl⟩
  exact ⟨⟨c0, by omega, by omega, by omega⟩, ⟨c1, by omega, by omega, by omega⟩, by omega⟩
/-- What lies in a prefix is it, or lies in a half. -/
theorem inside_split {p q : Pf} (h : Tb.ok p) (hl : p.len < 8) (hq : Inside q p) : q = p ∨ Inside q (child p 0) ∨ Inside q (child p 1) := by
  obtain ⟨h1, h2, h3, h4⟩ := hq
  have c0 := ok_child h hl (b := 0) (by omega) (by omega)
  have c1 := ok_child h hl (b := 1) (by omega) (by omega)
  have s0 := span_child h hl 0
  have s1 := span_child h hl 1
  have hc : (child p 0).len = p.len + 1 ∧ (child p 1).len = p.len + 1 ∧ (child p 0).bits = p.bits * 2 + 0 ∧ (child p 1).bits = p.bits * 2 + 1 := ⟨rfl, rfl, rfl, rfl⟩
  by_cases e : q.len = p.len
  · left
    refine pf_eq e ?_
    rw [fst_ok h, fst_ok h1] at h2
    rw [lst_ok h, lst_ok h1] at h3
    have e3 : span q = span p := by unfold span; rw [e]
    rw [e3] at h2 h3
    rcases ok_cases h with k | k | k | k | k | k | k | k | k <;> (obtain ⟨_, e, _⟩ := k; rw [e] at h2 h3; omega)
  · right
    unfold Inside
    rw [fst_ok c0, lst_ok c0, fst_ok c1, lst_ok c1, fst_ok h1, lst_ok h1, hc.1, hc.2.1, hc.2.2.1, hc.2.2.2]
    rw [fst_ok h, fst_ok h1] at h2
    rw [lst_ok h, lst_ok h1] at h3
    have es : span (child p 0) = span (child p 1) := by omega
    rw [es]
    generalize span (child p 1) = S at *
    generalize span (child p 0) = S0 at *
    clear c0 c1 hc
    have hS : S = span p / 2 := by omega
    clear s0 es s1
    by_cases hh : q.bits * span q < (p.bits * 2 + 1) * S
    · left
      rcases ok_cases h with k | k | k | k | k | k | k | k | k <;> (obtain ⟨l1, e1, _⟩ := k; first | (exfalso; omega) | (rw [e1] at h2 h3 hS; simp only [Int.reduceDiv] at hS; subst hS; rcases ok_cases h1 with k | k | k | k | k | k | k | k | k <;> (obtain ⟨l2, e2, _⟩ := k; first | (exfalso; omega) | (rw [e2] at h2 h3 hh ⊢; exact ⟨h1, by omega, by omega, by omega⟩))))
    · right
      rcases ok_cases h with k | k | k | k | k | k | k | k | k <;> (obtain ⟨l1, e1, _⟩ := k; first | (exfalso; omega) | (rw [e1] at h2 h3 hS; simp only [Int.reduceDiv] at hS; subst hS; rcases ok_cases h1 with k | k | k | k | k | k | k | k | k <;> (obtain ⟨l2, e2, _⟩ := k; first | (exfalso; omega) | (rw [e2] at h2 h3 hh ⊢; exact ⟨h1, by omega, by omega, by omega⟩))))
end Go.Proofs.Ytdkkeaegmmepfaa.Tb
/- By the table of as few routes as can be all addresses go as they did; no table has fewer; no route of it can be spared; no program. -/
namespace Go.Proofs.Ytdkkeaegmmepfaa.Tb

theorem made_mem {f : Int → Bool} {p : Pf} {h : Int} {r : Rt} (hr : r ∈ made f p h) : r = ⟨p, fstW f⟩ := by
  unfold made at hr
  split at hr
  · cases hr
  · simpa using hr
theorem least_in : ∀ (d : Nat) (p : Pf) (hs : List Int) (h : Int), Fit d p hs → HopsOK hs → ∀ r ∈ least d p hs h, Inside r.p p ∧ hopOK r.hop
  | 0, p, hs, h, hf, hh, r, hr => by
    rw [made_mem (show r ∈ made _ p h from hr)]
    have hw := wsh_wish 0 p hs hf hh
    exact ⟨Inside.self hf.1, hw.1 _ (fstW_in hw).1⟩
  | d + 1, p, hs, h, hf, hh, r, hr => by
    unfold least at hr
    rcases List.mem_append.1 hr with hr | hr
    · rw [made_mem hr]
      have hw := wsh_wish (d + 1) p hs hf hh
      exact ⟨Inside.self hf.1, hw.1 _ (fstW_in hw).1⟩
    · split at hr
      · cases hr
      · obtain ⟨i0, i1, _⟩ := inside_child hf.1 hf.lt
        rcases List.mem_append.1 hr with hr | hr
        · obtain ⟨a, b⟩ := least_in d _ _ _ hf.low hh.low r hr
          exact ⟨a.trans i0, b⟩
        · obtain ⟨a, b⟩ := least_in d _ _ _ hf.high hh.high r hr
          exact ⟨a.trans i1, b⟩
theorem inside_less {p q : Pf} (_ : Tb.ok p) (hl : p.len < 8) (hq : Inside q (child p 0) ∨ Inside q (child p 1)) (h0 : Tb.ok p) : less p q := by
  obtain ⟨i0, i1, _⟩ := inside_child h0 hl
  unfold less
  rcases hq with hq | hq
  · have := hq.2.1; have := hq.2.2.2; have := i0.2.1; have := i0.2.2.2
    have : (child p 0).len = p.len + 1 := rfl
    omega
  · have := hq.2.1; have := hq.2.2.2; have := i1.2.1; have := i1.2.2.2
    have : (child p 1).len = p.len + 1 := rfl
    omega
theorem sides_less {p q r : Pf} (h : Tb.ok p) (hl : p.len < 8) (hq : Inside q (child p 0)) (hr : Inside r (child p 1)) : less q r := by
  obtain ⟨_, _, h3⟩ := inside_child h hl
  have := hq.2.2.1; have := hr.2.1; have := (fst_le hq.1).1
  exact .inl (by omega)
theorem least_pair : ∀ (d : Nat) (p : Pf) (hs : List Int) (h : Int), Fit d p hs → HopsOK hs → (least d p hs h).Pairwise (fun r s => less r.p s.p)
  | 0, p, hs, h, hf, hh => by
    show (made _ p h).Pairwise _
    unfold made
    split
    · exact List.Pairwise.nil
    · simp
  | d + 1, p, hs, h, hf, hh => by
    unfold least
    have hm : (made (wsh (d + 1) hs) p h).Pairwise (fun r s => less r.p s.p) := by
      unfold made
      split
      · exact List.Pairwise.nil
      · simp
    by_cases ha : alike hs
    · rw [if_pos ha, List.append_nil]
      exact hm
    · rw [if_neg ha]
      rw [List.pairwise_append, List.pairwise_append]
      refine ⟨hm, ⟨least_pair d _ _ _ hf.low hh.low, least_pair d _ _ _ hf.high hh.high, ?_⟩, ?_⟩
      · intro a ha' b hb
        exact sides_less hf.1 hf.lt (least_in d _ _ _ hf.low hh.low a ha').1 (least_in d _ _ _ hf.high hh.high b hb).1
      · intro a ha' b hb
        rw [made_mem ha']
        rcases List.mem_append.1 hb with hb | hb
        · exact inside_less hf.1 hf.lt (.inl (least_in d _ _ _ hf.low hh.low b hb).1) hf.1
        · exact inside_less hf.1 hf.lt (.inr (least_in d _ _ _ hf.high hh.high b hb).1) hf.1
theorem least_wf {hs : List Int} (hf : Fit 8 ⟨0, 0⟩ hs) (hh : HopsOK hs) (h : Int) : Wf (least 8 ⟨0, 0⟩ hs h) :=
  ⟨fun r hr => ⟨(least_in 8 _ _ h hf hh r hr).1.1, (least_in 8 _ _ h hf hh r hr).2⟩, least_pair 8 _ _ h hf hh⟩
theorem inside_has {q p : Pf} {a : Int} (h : Inside q p) (ha : has q a) (hp : Tb.ok p) : has p a := ⟨hp, by have := h.2.1; have := ha.2; omega, by have := h.2.2.1; have := ha.2; omega⟩
/-- A half has an address, or the other one. -/
theorem half_has {p : Pf} {a : Int} (h : has p a) (hl : p.len < 8) : (has (child p 0) a ∧ ¬ has (child p 1) a) ∨ (has (child p 1) a ∧ ¬ has (child p 0) a) := by
  have hp := h.1
  have c0 := ok_child hp hl (b := 0) (by omega) (by omega)
  have c1 := ok_child hp hl (b := 1) (by omega) (by omega)
  have s0 := span_child hp hl 0
  have s1 := span_child hp hl 1
  have f := fst_child hp hl
  have l := lst_fst hp
  have l0 := lst_fst c0
  have l1 := lst_fst c1
  have h2 := h.2
  by_cases c : a < fst (child p 1)
  · exact .inl ⟨⟨c0, by omega, by omega⟩, fun k => by have := k.2; omega⟩
  · exact .inr ⟨⟨c1, by omega, by omega⟩, fun k => by have := k.2; omega⟩
theorem Fit.get_low {d : Nat} {p : Pf} {hs : List Int} (hf : Fit (d + 1) p hs) {a : Int} (ha : has (child p 0) a) : (lowH hs).getD (a - fst (child p 0)).toNat 0 = hs.getD (a - fst p).toNat 0 := by
  obtain ⟨h1, h2, h3⟩ := hf.half
  have f := fst_child hf.1 hf.lt
  have l0 := lst_fst ha.1
  have h4 := ha.2
  rw [f.1]
  exact lowH_get (by omega)
theorem Fit.get_high {d : Nat} {p : Pf} {hs : List Int} (hf : Fit (d + 1) p hs) {a : Int} (ha : has (child p 1) a) : (highH hs).getD (a - fst (child p 1)).toNat 0 = hs.getD (a - fst p).toNat 0 := by
  obtain ⟨h1, h2, h3⟩ := hf.half
  have f := fst_child hf.1 hf.lt
  have l0 := lst_fst ha.1
  have h4 := ha.2
  rw [highH_get, f.2]
  congr 1
  omega
theorem Fit.at_lt {d : Nat} {p : Pf} {hs : List Int} (hf : Fit d p hs) {a : Int} (ha : has p a) : (a - fst p).toNat < hs.length := by
  have := hf.2.2
  have := lst_fst ha.1
  have := ha.2
  omega
theorem fold_made {f : Int → Bool} {p : Pf} {h a : Int} (ha : has p a) : (made f p h).foldl (lookF a) h = pick f h := by
  unfold made pick
  split
  · rfl
  · show lookF a h ⟨p, fstW f⟩ = _
    unfold lookF
    rw [if_pos ha]
/-- All go as they did. -/
theorem least_fold : ∀ (d : Nat) (p : Pf) (hs : List Int) (h : Int), Fit d p hs → HopsOK hs → ∀ a, has p a → (least d p hs h).foldl (lookF a) h = hs.getD (a - fst p).toNat 0
  | 0, p, hs, h, hf, hh, a, ha => by
    show (made (wsh 0 hs) p h).foldl (lookF a) h = _
    rw [fold_made ha]
    have e := pick_in (wsh_wish 0 p hs hf hh) h
    have e : pick (wsh 0 hs) h = hs.getD 0 0 := by simpa [wsh] using e
    rw [e]
    have h1 : (hs.length : Int) = 1 := by
      rw [hf.2.2]
      have := hf.2.1
      unfold span
      rw [show (8 - p.len).toNat = 0 from by omega]
      rfl
    have := hf.at_lt ha
    rw [show (a - fst p).toNat = 0 from by omega]
  | d + 1, p, hs, h, hf, hh, a, ha => by
    unfold least
    rw [List.foldl_append, fold_made ha]
    by_cases hal : alike hs
    · rw [if_pos hal]
      have e := pick_in (wsh_wish (d + 1) p hs hf hh) h
      rw [(wsh_alike (d + 1) p hs hf hh hal).1] at e ⊢
      have e : pick (fun h => h == hs.getD 0 0) h = hs.getD 0 0 := beq_iff_eq.1 e
      show pick _ h = _
      rw [e]
      exact (hal _ (hf.at_lt ha)).symm
    · rw [if_neg hal, List.foldl_append]
      generalize pick (wsh (d + 1) hs) h = k
      rcases half_has ha hf.lt with ⟨h1, h2⟩ | ⟨h1, h2⟩
      · rw [least_fold d _ _ k hf.low hh.low a h1, hf.get_low h1]
        exact look_keep _ _ (fun r hr hra => h2 (inside_has (least_in d _ _ _ hf.high hh.high r hr).1 hra hf.high.1))
      · rw [look_keep _ _ (fun r hr hra => h2 (inside_has (least_in d _ _ _ hf.low hh.low r hr).1 hra hf.low.1)), least_fold d _ _ k hf.high hh.high a h1, hf.get_high h1]
/-- Routes within a prefix: it itself, those of one half, those of the other one. -/
theorem part_split {p : Pf} (hp : Tb.ok p) (hl : p.len < 8) : ∀ L : List Rt, (∀ r ∈ L, Inside r.p p) → L.Pairwise (fun r s => less r.p s.p) →
    ∃ M A B, L = M ++ (A ++ B) ∧ (M = [] ∨ ∃ h, M = [⟨p, h⟩]) ∧ (∀ r ∈ A, Inside r.p (child p 0)) ∧ (∀ r ∈ B, Inside r.p (child p 1))
  | [], _, _ => ⟨[], [], [], rfl, .inl rfl, fun r hr => (by cases hr), fun r hr => (by cases hr)⟩
  | r :: L, hi, hpw => by
    obtain ⟨k1, k2⟩ := List.pairwise_cons.1 hpw
    obtain ⟨M, A, B, e, hM, hA, hB⟩ := part_split hp hl L (fun s hs => hi s (List.mem_cons_of_mem _ hs)) k2
    have hr := hi r (List.mem_cons_self ..)
    have hM0 : M = [] := by
      rcases hM with h | ⟨h, h'⟩
      · exact h
      · exfalso
        have hm : (⟨p, h⟩ : Rt) ∈ L := by rw [e, h']; simp
        have hl2 := k1 _ hm
        unfold less at hl2
        have := hr.2.1
        have := hr.2.2.2
        dsimp only at hl2
        omega
    subst hM0
    rw [List.nil_append] at e
    rcases inside_split hp hl hr with h | h | h
    · refine ⟨[r], A, B, by rw [e]; rfl, .inr ⟨r.hop, ?_⟩, hA, hB⟩
      cases r
      cases h
      rfl
    · refine ⟨[], r :: A, B, by rw [e]; rfl, .inl rfl, fun s hs => ?_, hB⟩
      rcases List.mem_cons.1 hs with rfl | hs
      · exact h
      · exact hA s hs
    · have hA0 : A = [] := by
        cases A with
        | nil => rfl
        | cons s A =>
          exfalso
          have h1 := k1 s (by rw [e]; simp)
          exact less_asymm h1 (sides_less hp hl (hA s (List.mem_cons_self ..)) h)
      subst hA0
      refine ⟨[], [], r :: B, by rw [e]; rfl, .inl rfl, fun s hs => (by cases hs), fun s hs => ?_⟩
      rcases List.mem_cons.1 hs with rfl | hs
      · exact h
      · exact hB s hs
theorem no_le (f : Int → Bool) (h : Int) : no f h ≤ 1 := by unfold no; split <;> omega
/-- No routes by which all goes so are fewer. -/
theorem least_few : ∀ (d : Nat) (p : Pf) (hs : List Int) (h : Int) (L : List Rt), Fit d p hs → HopsOK hs → (∀ r ∈ L, Inside r.p p) → L.Pairwise (fun r s => less r.p s.p) →
    (∀ a, has p a → L.foldl (lookF a) h = hs.getD (a - fst p).toNat 0) → mn d hs + no (wsh d hs) h ≤ L.length
  | 0, p, hs, h, L, hf, hh, hi, hpw, hg => by
    show 0 + _ ≤ _
    cases L with
    | nil =>
      have e := hg (fst p) (has_first hf.1)
      rw [Int.sub_self] at e
      have e : h = hs.getD 0 0 := e
      have : wsh 0 hs h = true := by simp only [wsh]; rw [e]; simp
      unfold no
      rw [if_pos this]
      simp
    | cons r L =>
      have := no_le (wsh 0 hs) h
      rw [List.length_cons]
      omega
  | d + 1, p, hs, h, L, hf, hh, hi, hpw, hg => by
    obtain ⟨M, A, B, rfl, hM, hA, hB⟩ := part_split hf.1 hf.lt L hi hpw
    obtain ⟨_, p2, _⟩ := List.pairwise_append.1 hpw
    obtain ⟨pA, pB, _⟩ := List.pairwise_append.1 p2
    obtain ⟨i0, i1, _⟩ := inside_child hf.1 hf.lt
    obtain ⟨k, hk, hk2⟩ : ∃ k, (∀ a, has p a → M.foldl (lookF a) h = k) ∧ (M.length = 0 ∧ k = h ∨ M.length = 1) := by
      rcases hM with rfl | ⟨x, rfl⟩
      · exact ⟨h, fun _ _ => rfl, .inl ⟨rfl, rfl⟩⟩
      · refine ⟨x, fun a ha => ?_, .inr rfl⟩
        show lookF a h ⟨p, x⟩ = x
        unfold lookF
        rw [if_pos ha]
    have gA : mn d (lowH hs) + no (wsh d (lowH hs)) k ≤ A.length := least_few d _ _ k A hf.low hh.low hA pA (fun a ha => by
      have hpa := inside_has i0 ha hf.1
      have h1 := hg a hpa
      rw [List.foldl_append, List.foldl_append, hk a hpa] at h1
      rw [hf.get_low ha, ← h1]
      refine (look_keep B _ (fun r hr hra => ?_)).symm
      rcases half_has hpa hf.lt with ⟨_, q⟩ | ⟨_, q⟩
      · exact q (inside_has (hB r hr) hra hf.high.1)
      · exact q ha)
    have gB : mn d (highH hs) + no (wsh d (highH hs)) k ≤ B.length := least_few d _ _ k B hf.high hh.high hB pB (fun a ha => by
      have hpa := inside_has i1 ha hf.1
      have h1 := hg a hpa
      rw [List.foldl_append, List.foldl_append, hk a hpa] at h1
      rw [hf.get_high ha, ← h1]
      rw [look_keep A _ (fun r hr hra => ?_)]
      rcases half_has hpa hf.lt with ⟨_, q⟩ | ⟨_, q⟩
      · exact q ha
      · exact q (inside_has (hA r hr) hra hf.low.1))
    have hn := no_mix (wsh_wish d _ _ hf.low hh.low) (wsh_wish d _ _ hf.high hh.high) k
    have n1 := no_le (wsh (d + 1) hs) h
    have n2 := no_le (wsh (d + 1) hs) k
    rw [List.length_append, List.length_append]
    show mn d (lowH hs) + mn d (highH hs) + (if both (wsh d (lowH hs)) (wsh d (highH hs)) then 0 else 1) + _ ≤ _
    have e : mix (wsh d (lowH hs)) (wsh d (highH hs)) = wsh (d + 1) hs := rfl
    rw [e] at hn
    generalize (if both (wsh d (lowH hs)) (wsh d (highH hs)) then 0 else 1) = x at *
    rcases hk2 with ⟨q1, rfl⟩ | q1
    · omega
    · omega
theorem allOf_hops {L : List Rt} (hw : Wf L) : HopsOK (allOf L) := fun k hk => by
  rw [allOf_len] at hk
  unfold allOf
  rw [List.getD_eq_getElem?_getD, List.getElem?_map, List.getElem?_range hk]
  exact look_hopOK hw _
theorem fit_allOf (L : List Rt) : Fit 8 ⟨0, 0⟩ (allOf L) := ⟨by decide, by decide, by rw [allOf_len]; decide⟩
theorem allOf_at (L : List Rt) {n : Nat} (h : n < 256) : (allOf L).getD n 0 = look L n := by
  unfold allOf
  rw [List.getD_eq_getElem?_getD, List.getElem?_map, List.getElem?_range h]
  rfl
/-- The table of as few as can be. -/
def few (L : List Rt) : List Rt := least 8 ⟨0, 0⟩ (allOf L) (-1)
theorem few_wf {L : List Rt} (hw : Wf L) : Wf (few L) := least_wf (fit_allOf L) (allOf_hops hw) _
theorem has_all {n : Nat} (h : n < 256) : has ⟨0, 0⟩ (n : Int) := by
  refine ⟨by decide, ?_, ?_⟩
  · rw [fst00']; omega
  · have := lst00'; omega
theorem few_all {L : List Rt} (hw : Wf L) : allOf (few L) = allOf L := by
  refine allOf_ext (fun n hn => ?_)
  have h := least_fold 8 _ _ (-1) (fit_allOf L) (allOf_hops hw) n (has_all hn)
  rw [fst00', Int.sub_zero, Int.toNat_natCast, allOf_at L hn] at h
  exact h
theorem few_len {L : List Rt} (hw : Wf L) : (few L).length = mn 8 (allOf L) + no (wsh 8 (allOf L)) (-1) := least_len 8 _ _ _ (fit_allOf L) (allOf_hops hw)
theorem inside_all {p : Pf} (h : Tb.ok p) : Inside p ⟨0, 0⟩ := by
  have := fst_ge h
  have := fst_le h
  have := lst00'
  refine ⟨h, by rw [fst00']; omega, by omega, h.1⟩
theorem few_fewest {L M : List Rt} (hw : Wf L) (hm : Wf M) (h : allOf M = allOf L) : (few L).length ≤ M.length := by
  rw [few_len hw]
  refine least_few 8 ⟨0, 0⟩ (allOf L) (-1) M (fit_allOf L) (allOf_hops hw) (fun r hr => inside_all (hm.1 r hr).1) hm.2 (fun a ha => ?_)
  have hr := has_range ha
  obtain ⟨n, rfl⟩ := Int.eq_ofNat_of_zero_le hr.1
  have hn : n < 256 := by omega
  rw [fst00', Int.sub_zero, Int.toNat_natCast, ← h, allOf_at M hn]
  rfl
theorem few_few {L : List Rt} (hw : Wf L) : few (few L) = few L := by
  show least 8 _ (allOf (few L)) _ = _
  rw [few_all hw]
  rfl
/-- Leaves are more than routes. -/
theorem mn_lv : ∀ (d : Nat) (p : Pf) (hs : List Int), Fit d p hs → HopsOK hs → mn d hs + 1 ≤ (lv d p hs).length
  | 0, p, hs, _, _ => by simp [mn, lv]
  | d + 1, p, hs, hf, hh => by
    unfold lv
    by_cases ha : alike hs
    · rw [if_pos ha, (wsh_alike (d + 1) p hs hf hh ha).2]
      simp
    · rw [if_neg ha, List.length_append]
      have h0 := mn_lv d _ _ hf.low hh.low
      have h1 := mn_lv d _ _ hf.high hh.high
      show mn d (lowH hs) + mn d (highH hs) + _ + 1 ≤ _
      split <;> omega
theorem few_leaves {L : List Rt} (hw : Wf L) : (few L).length ≤ (lv 8 ⟨0, 0⟩ (allOf L)).length := by
  have h := mn_lv 8 _ _ (fit_allOf L) (allOf_hops hw)
  have := no_le (wsh 8 (allOf L)) (-1)
  rw [few_len hw]
  omega
end Go.Proofs.Ytdkkeaegmmepfaa.Tb
/- One route less is not enough; the count of the document's own answer; no program. -/
namespace Go.Proofs.Ytdkkeaegmmepfaa.Tb

/-- A route that is there, taken away. -/
theorem take_away {U : List Rt} (hw : Wf U) {p : Pf} (hg : get U p ≠ -2) : setC U p (-2) = 0 ∧ Wf (setL U p (-2)) ∧ (setL U p (-2)).length + 1 = U.length ∧ get (setL U p (-2)) p = -2 := by
  have hp : Tb.ok p := Classical.byContradiction fun h => hg (get_no h)
  have hc : setC U p (-2) = 0 := by
    unfold setC
    rw [if_neg, if_neg, if_neg]
    · exact fun k => hg k.1
    · exact fun k => hg k.1
    · rintro (k | k)
      · exact k hp
      · exact k.1 rfl
  have e : setL U p (-2) = setOk U p (-2) := by unfold setL; rw [if_pos hc]
  refine ⟨hc, ?_, ?_, ?_⟩
  · rw [e]; exact wf_set hw hp (.inl rfl)
  · rw [e]
    rcases split_wf hw hp with ⟨g, _, _⟩ | ⟨_, _, g⟩
    · exact absurd g hg
    · have := congrArg List.length g
      rw [List.length_append, List.length_cons] at this
      unfold setOk mid
      rw [if_pos rfl, List.append_nil, List.length_append]
      omega
  · rw [e]; exact get_set hp (-2)
/-- Without a route of a table of as few as can be addresses go otherwise. -/
theorem spare_none {L : List Rt} (hw : Wf L) {p : Pf} (hg : get (few L) p ≠ -2) : allOf (setL (few L) p (-2)) ≠ allOf L := fun e => by
  obtain ⟨_, h1, h2, _⟩ := take_away (few_wf hw) hg
  have := few_fewest hw h1 e
  omega
theorem setL_eq {L : List Rt} {p : Pf} {hop : Int} (h : setC L p hop = 0) : setL L p hop = setOk L p hop := by unfold setL; rw [if_pos h]
/-- .. and so they do if one goes to another hop. -/
theorem turn_none {L : List Rt} (hw : Wf L) {p : Pf} (hg : get (few L) p ≠ -2) (hl : (few L).length ≤ 40) {hop : Int} (hh : hopOK hop) (hne : hop ≠ get (few L) p) :
    setC (setL (few L) p (-2)) p hop = 0 ∧ allOf (setL (setL (few L) p (-2)) p hop) ≠ allOf L := by
  have hp : Tb.ok p := Classical.byContradiction fun h => hg (get_no h)
  obtain ⟨c1, h1, h2, h3⟩ := take_away (few_wf hw) hg
  have h2' : hop ≠ -2 := fun e => by unfold hopOK at hh; omega
  have hsp := spare_none hw hg
  obtain ⟨_, b2, b3⟩ := set_back (few_wf hw) hl c1
  have hc : setC (setL (few L) p (-2)) p hop = 0 := by
    unfold setC
    rw [if_neg, if_neg, if_neg]
    · rintro ⟨_, k⟩
      omega
    · exact fun k => h2' k.2
    · rintro (k | k)
      · exact k hp
      · exact k.2 hh
  refine ⟨hc, fun e => hsp ?_⟩
  rw [setL_eq hc] at e
  rw [setL_eq b2] at b3
  generalize setL (few L) p (-2) = V at *
  rw [← e]
  refine allOf_ext (fun n hn => ?_)
  by_cases k : ¬ has p n ∨ longer V p n
  · exact (set_apart h1 hp hop k).symm
  · exfalso
    have k1 : has p n := Classical.byContradiction fun q => k (.inl q)
    have k2 : ¬ longer V p n := fun q => k (.inr q)
    have e1 : look (setOk V p hop) n = hop := set_says h2' k1 k2
    have e2 : look (few L) n = get (few L) p := by
      conv => lhs; rw [← b3]
      exact set_says hg k1 k2
    have e3 : look (setOk V p hop) n = look (few L) n := by
      rw [← allOf_at _ hn, ← allOf_at _ hn, e, few_all hw]
    exact hne (by rw [← e1, e3, e2])

/-- The least of a number and one more than each of others. -/
def lowF (P : Nat → Int) (x : Int) : Nat → Int
  | 0 => x
  | n + 1 => if 1 + P n < lowF P x n then 1 + P n else lowF P x n
theorem lowF_in (P : Nat → Int) (x : Int) : ∀ n, lowF P x n ≤ x ∧ (∀ h, h < n → lowF P x n ≤ 1 + P h) ∧ (lowF P x n = x ∨ ∃ h, h < n ∧ lowF P x n = 1 + P h)
  | 0 => ⟨Int.le_refl _, fun h hh => absurd hh (by omega), .inl rfl⟩
  | n + 1 => by
    obtain ⟨h1, h2, h3⟩ := lowF_in P x n
    by_cases c : 1 + P n < lowF P x n
    · have e : lowF P x (n + 1) = 1 + P n := by conv => lhs; unfold lowF
                                                rw [if_pos c]
      rw [e]
      refine ⟨by omega, fun h hh => ?_, .inr ⟨n, by omega, rfl⟩⟩
      by_cases q : h = n
      · rw [q]; exact Int.le_refl _
      · have := h2 h (by omega); omega
    · have e : lowF P x (n + 1) = lowF P x n := by conv => lhs; unfold lowF
                                                   rw [if_neg c]
      rw [e]
      refine ⟨h1, fun h hh => ?_, ?_⟩
      · by_cases q : h = n
        · rw [q]; omega
        · exact h2 h (by omega)
      · rcases h3 with h3 | ⟨h, hh, h3⟩
        · exact .inl h3
        · exact .inr ⟨h, by omega, h3⟩
/-- What 'counts' says of a hop (by its number and one). -/
def cnts (d : Nat) (hs : List Int) (k : Nat) : Int := ((mn d hs + no (wsh d hs) ((k : Int) - 1) : Nat) : Int)
theorem no_true {f : Int → Bool} {h : Int} (e : f h = true) : no f h = 0 := by unfold no; rw [if_pos e]
theorem no_mix_true {a b : Int → Bool} (ha : Wish a) {k : Int} (h : mix a b k = true) : no a k + no b k = if both a b then 0 else 1 := by
  by_cases e : both a b = true
  · have hm : mix a b k = (a k && b k) := by unfold mix; rw [if_pos e]
    rw [hm, Bool.and_eq_true] at h
    unfold no
    rw [if_pos e, h.1, h.2]
    rfl
  · have hm : mix a b k = (a k || b k) := by unfold mix; rw [if_neg e]
    have hn : ¬ (a k = true ∧ b k = true) := fun q => e (both_iff.2 ⟨k, ha.1 k q.1, q⟩)
    rw [hm] at h
    unfold no
    rw [if_neg e]
    cases h1 : a k <;> cases h2 : b k <;> simp [h1, h2] at hn h ⊢
theorem cnts_succ {d : Nat} {p : Pf} {hs : List Int} (hf : Fit (d + 1) p hs) (hh : HopsOK hs) {P : Nat → Int} (hP : ∀ k, k < 7 → P k = cnts d (lowH hs) k + cnts d (highH hs) k) {k : Nat} (hk : k < 7) : lowF P (P k) 7 = cnts (d + 1) hs k := by
  have wa := wsh_wish d _ _ hf.low hh.low
  have wb := wsh_wish d _ _ hf.high hh.high
  have wm : Wish (mix (wsh d (lowH hs)) (wsh d (highH hs))) := wa.mix wb
  have hlow : ∀ j : Nat, j < 7 → ((mn d (lowH hs) + mn d (highH hs) + (if both (wsh d (lowH hs)) (wsh d (highH hs)) then 0 else 1) + no (mix (wsh d (lowH hs)) (wsh d (highH hs))) ((j : Int) - 1) : Nat) : Int) ≤ P j ∧
      (mix (wsh d (lowH hs)) (wsh d (highH hs)) ((j : Int) - 1) = true → P j = ((mn d (lowH hs) + mn d (highH hs) + (if both (wsh d (lowH hs)) (wsh d (highH hs)) then 0 else 1) : Nat) : Int)) := fun j hj => by
    rw [hP j hj]
    unfold cnts
    have h1 := no_mix wa wb ((j : Int) - 1)
    have h2 := no_le (mix (wsh d (lowH hs)) (wsh d (highH hs))) ((j : Int) - 1)
    refine ⟨?_, fun h => ?_⟩
    · generalize (if both (wsh d (lowH hs)) (wsh d (highH hs)) then 0 else 1) = e at *
      omega
    · have h3 := no_mix_true wa h
      generalize (if both (wsh d (lowH hs)) (wsh d (highH hs)) then 0 else 1) = e at *
      omega
  obtain ⟨l1, l2, l3⟩ := lowF_in P (P k) 7
  show _ = ((mn d (lowH hs) + mn d (highH hs) + (if both (wsh d (lowH hs)) (wsh d (highH hs)) then 0 else 1) + no (mix (wsh d (lowH hs)) (wsh d (highH hs))) ((k : Int) - 1) : Nat) : Int)
  obtain ⟨w, hw⟩ := wm.2
  have hwo := wm.1 w hw
  unfold hopOK at hwo
  obtain ⟨j, hj⟩ := Int.eq_ofNat_of_zero_le (show 0 ≤ w + 1 by omega)
  have hj7 : j < 7 := by omega
  have hw' : mix (wsh d (lowH hs)) (wsh d (highH hs)) ((j : Int) - 1) = true := by rw [show (j : Int) - 1 = w from by omega]; exact hw
  have q1 := (hlow j hj7).2 hw'
  have q2 := l2 j hj7
  have q3 := (hlow k hk).1
  have q4 := no_le (mix (wsh d (lowH hs)) (wsh d (highH hs))) ((k : Int) - 1)
  have q5 : lowF P (P k) 7 ≤ ((mn d (lowH hs) + mn d (highH hs) + (if both (wsh d (lowH hs)) (wsh d (highH hs)) then 0 else 1) + no (mix (wsh d (lowH hs)) (wsh d (highH hs))) ((k : Int) - 1) : Nat) : Int) := by
    by_cases c : mix (wsh d (lowH hs)) (wsh d (highH hs)) ((k : Int) - 1) = true
    · have := (hlow k hk).2 c
      rw [no_true c]
      omega
    · have : no (mix (wsh d (lowH hs)) (wsh d (highH hs))) ((k : Int) - 1) = 1 := by unfold no; rw [if_neg c]
      omega
  have q6 : ((mn d (lowH hs) + mn d (highH hs) + (if both (wsh d (lowH hs)) (wsh d (highH hs)) then 0 else 1) + no (mix (wsh d (lowH hs)) (wsh d (highH hs))) ((k : Int) - 1) : Nat) : Int) ≤ lowF P (P k) 7 := by
    rcases l3 with l3 | ⟨h, hh7, l3⟩
    · rw [l3]; exact q3
    · have := (hlow h hh7).1
      omega
  omega
theorem cnts_zero {hs : List Int} (h : hopOK (hs.getD 0 0)) {P : Nat → Int} (hP : ∀ k : Nat, k < 7 → P k = if (k : Int) = hs.getD 0 0 + 1 then 0 else 1000) {k : Nat} (hk : k < 7) : lowF P (P k) 7 = cnts 0 hs k := by
  unfold hopOK at h
  obtain ⟨j, hj⟩ := Int.eq_ofNat_of_zero_le (show 0 ≤ hs.getD 0 0 + 1 by omega)
  have hj7 : j < 7 := by omega
  have pj : P j = 0 := by rw [hP j hj7, if_pos (by omega)]
  have hpos : ∀ i, i < 7 → 0 ≤ P i := fun i hi => by rw [hP i hi]; split <;> omega
  obtain ⟨l1, l2, l3⟩ := lowF_in P (P k) 7
  unfold cnts
  by_cases c : (k : Int) = hs.getD 0 0 + 1
  · have e : wsh 0 hs ((k : Int) - 1) = true := by simp only [wsh]; rw [c]; simp
    have pk : P k = 0 := by rw [hP k hk, if_pos c]
    rw [no_true e]
    have : 0 ≤ lowF P (P k) 7 := by
      rcases l3 with l3 | ⟨h, hh7, l3⟩
      · omega
      · have := hpos h hh7; omega
    show _ = ((0 + 0 : Nat) : Int)
    omega
  · have e : no (wsh 0 hs) ((k : Int) - 1) = 1 := by
      unfold no
      rw [if_neg]
      simp only [wsh, beq_iff_eq]
      omega
    have pk : P k = 1000 := by rw [hP k hk, if_neg c]
    rw [e]
    have := l2 j hj7
    have : 1 ≤ lowF P (P k) 7 := by
      rcases l3 with l3 | ⟨h, hh7, l3⟩
      · omega
      · have := hpos h hh7; omega
    show _ = ((0 + 1 : Nat) : Int)
    omega
theorem few_cnts {L : List Rt} (hw : Wf L) : cnts 8 (allOf L) 0 = ((few L).length : Int) := by rw [few_len hw]; rfl
end Go.Proofs.Ytdkkeaegmmepfaa.Tb
/- Changes of a table: which they are, and what they make of it; no program. -/
namespace Go.Proofs.Ytdkkeaegmmepfaa.Tb

/-- A change. -/
structure Ch where
  p : Pf
  old : Int
  new : Int
instance : DecidableEq Ch := fun a b => decidable_of_iff (a.p = b.p ∧ a.old = b.old ∧ a.new = b.new) ⟨fun h => by cases a; cases b; simp_all, fun h => by rw [h]; exact ⟨rfl, rfl, rfl⟩⟩
instance : Inhabited Ch := ⟨⟨⟨0, 0⟩, 0, 0⟩⟩
/-- Lists in one order, of the same: they are one. -/
theorem sorted_ext {α : Type} (key : α → Pf) : ∀ l m : List α, l.Pairwise (fun a b => less (key a) (key b)) → m.Pairwise (fun a b => less (key a) (key b)) → (∀ x, x ∈ l ↔ x ∈ m) → l = m
  | [], [], _, _, _ => rfl
  | [], y :: m, _, _, h => by have := (h y).2 (List.mem_cons_self ..); cases this
  | x :: l, [], _, _, h => by have := (h x).1 (List.mem_cons_self ..); cases this
  | x :: l, y :: m, hl, hm, h => by
    obtain ⟨l1, l2⟩ := List.pairwise_cons.1 hl
    obtain ⟨m1, m2⟩ := List.pairwise_cons.1 hm
    have e : x = y := by
      rcases List.mem_cons.1 ((h x).1 (List.mem_cons_self ..)) with e | e
      · exact e
      · rcases List.mem_cons.1 ((h y).2 (List.mem_cons_self ..)) with k | k
        · exact k.symm
        · exact absurd (m1 x e) (less_asymm (l1 y k))
    subst e
    congr 1
    refine sorted_ext key l m l2 m2 (fun z => ⟨fun hz => ?_, fun hz => ?_⟩)
    · rcases List.mem_cons.1 ((h z).1 (List.mem_cons_of_mem _ hz)) with e | e
      · subst e; exact absurd (l1 z hz) (less_irrefl _)
      · exact e
    · rcases List.mem_cons.1 ((h z).2 (List.mem_cons_of_mem _ hz)) with e | e
      · subst e; exact absurd (m1 z hz) (less_irrefl _)
      · exact e
/-- A list in order, all of whose keys another one has, is no longer. -/
theorem sorted_len {α β : Type} (key : α → Pf) (key' : β → Pf) : ∀ (m : List β) (l : List α), l.Pairwise (fun a b => less (key a) (key b)) → m.Pairwise (fun a b => less (key' a) (key' b)) → (∀ x ∈ l, ∃ y ∈ m, key' y = key x) → l.length ≤ m.length
  | _, [], _, _, _ => by simp
  | [], x :: l, _, _, h => by obtain ⟨y, hy, _⟩ := h x (List.mem_cons_self ..); cases hy
  | y :: m, x :: l, hl, hm, h => by
    obtain ⟨l1, l2⟩ := List.pairwise_cons.1 hl
    obtain ⟨m1, m2⟩ := List.pairwise_cons.1 hm
    by_cases e : key' y = key x
    · have := sorted_len key key' m l l2 m2 (fun z hz => by
        obtain ⟨u, hu, k⟩ := h z (List.mem_cons_of_mem _ hz)
        rcases List.mem_cons.1 hu with rfl | hu
        · have := l1 z hz
          rw [← e, k] at this
          exact absurd this (less_irrefl _)
        · exact ⟨u, hu, k⟩)
      simp only [List.length_cons]
      omega
    · have := sorted_len key key' m (x :: l) hl m2 (fun z hz => by
        obtain ⟨u, hu, k⟩ := h z hz
        rcases List.mem_cons.1 hu with rfl | hu
        · exfalso
          rcases List.mem_cons.1 hz with rfl | hz
          · exact e k
          · obtain ⟨v, hv, q⟩ := h x (List.mem_cons_self ..)
            rcases List.mem_cons.1 hv with rfl | hv
            · exact e q
            · have h1 := l1 z hz
              have h2 := m1 v hv
              rw [q, k] at h2
              exact less_asymm h1 h2
        · exact ⟨u, hu, k⟩)
      simp only [List.length_cons] at this ⊢
      omega
theorem get_mem {L : List Rt} (hw : Wf L) {r : Rt} (hr : r ∈ L) : get L r.p = r.hop := by
  have hp := hw.ok hr
  obtain ⟨A, B, rfl⟩ := List.append_of_mem hr
  have h1 := (List.pairwise_append.1 hw.2).2.2
  refine get_hit (h := r.hop) hp (fun s hs e => ?_)
  have := h1 s hs r (List.mem_cons_self ..)
  rw [e] at this
  exact less_irrefl _ this
theorem mem_get {L : List Rt} (hw : Wf L) {p : Pf} (h : get L p ≠ -2) : (⟨p, get L p⟩ : Rt) ∈ L := by
  have hp : Tb.ok p := Classical.byContradiction fun k => h (get_no k)
  rcases split_wf hw hp with ⟨g, _, _⟩ | ⟨_, _, g⟩
  · exact absurd g h
  · rw [g]
    simp only [List.mem_append, List.mem_cons]
    right; left
    rw [← g]
theorem hop_ne {L : List Rt} (hw : Wf L) {r : Rt} (hr : r ∈ L) : r.hop ≠ -2 := fun e => by
  have := (hw.1 r hr).2
  unfold hopOK at this
  omega
theorem wf_ext {A B : List Rt} (ha : Wf A) (hb : Wf B) (h : ∀ p, get A p = get B p) : A = B := by
  refine sorted_ext (fun r => r.p) A B ha.2 hb.2 (fun r => ⟨fun hr => ?_, fun hr => ?_⟩)
  · have e := h r.p
    rw [get_mem ha hr] at e
    have := mem_get hb (p := r.p) (by rw [← e]; exact hop_ne ha hr)
    rw [← e] at this
    exact this
  · have e := h r.p
    rw [get_mem hb hr] at e
    have := mem_get ha (p := r.p) (by rw [e]; exact hop_ne hb hr)
    rw [e] at this
    exact this
/-- Another prefix's route stays. -/
theorem get_other {L : List Rt} (hw : Wf L) {p q : Pf} (hp : Tb.ok p) (hop : Int) (hne : q ≠ p) (hh : hop = -2 ∨ hopOK hop) : get (setOk L p hop) q = get L q := by
  have hw2 := wf_set hw hp hh
  have hmem : ∀ r : Rt, r.p ≠ p → (r ∈ setOk L p hop ↔ r ∈ L) := fun r hr => by
    obtain ⟨M, e, hM⟩ := as_mid hw hp
    constructor
    · intro h
      unfold setOk at h
      rw [List.mem_append, List.mem_append] at h
      rcases h with (h | h) | h
      · exact (lo_mem h).1
      · exact absurd (by rw [(mid_mem h).1]) hr
      · exact (hi_mem h).1
    · intro h
      rw [e, List.mem_append, List.mem_append] at h
      unfold setOk
      rw [List.mem_append, List.mem_append]
      rcases h with (h | h) | h
      · exact .inl (.inl h)
      · exact absurd (hM r h) hr
      · exact .inr h
  by_cases h1 : get L q = -2
  · by_cases h2 : get (setOk L p hop) q = -2
    · rw [h1, h2]
    · exfalso
      have k := (hmem ⟨q, _⟩ hne).1 (mem_get hw2 h2)
      have := get_mem hw k
      dsimp only at this
      rw [← this, h1] at h2
      exact h2 rfl
  · have k := (hmem ⟨q, _⟩ hne).2 (mem_get hw h1)
    exact get_mem hw2 k
theorem get_setL {L : List Rt} (hw : Wf L) {p : Pf} {hop : Int} (hc : setC L p hop = 0) (q : Pf) : get (setL L p hop) q = if q = p then hop else get L q := by
  obtain ⟨hp, hh, _, _⟩ := setC_0 hc
  rw [setL_eq hc]
  split
  · rename_i e; rw [e]; exact get_set hp hop
  · rename_i e; exact get_other hw hp hop e hh

/-- All prefixes of two tables: routes of the first one, and those of the second one that it has not. -/
def uniStep (A : List Rt) (l : List Rt) (r : Rt) : List Rt := if get A r.p = -2 then setOk l r.p r.hop else l
def uni (A B : List Rt) : List Rt := B.foldl (uniStep A) A
theorem uni_in (A : List Rt) : ∀ (B l : List Rt), Wf l → (∀ r ∈ B, Tb.ok r.p ∧ hopOK r.hop) → B.Pairwise (fun r s => less r.p s.p) → (∀ r ∈ B, get A r.p = -2 → get l r.p = -2) →
    Wf (B.foldl (uniStep A) l) ∧ (B.foldl (uniStep A) l).length ≤ l.length + B.length ∧ ∀ q, get (B.foldl (uniStep A) l) q ≠ -2 ↔ (get l q ≠ -2 ∨ ∃ r ∈ B, r.p = q ∧ get A q = -2)
  | [], l, hw, _, _, _ => ⟨hw, by simp, fun q => by simp⟩
  | r :: B, l, hw, ho, hpw, hn => by
    obtain ⟨k1, k2⟩ := List.pairwise_cons.1 hpw
    obtain ⟨o1, o2⟩ := ho r (List.mem_cons_self ..)
    have hr2 : r.hop ≠ -2 := fun e => by unfold hopOK at o2; omega
    rw [List.foldl_cons]
    by_cases c : get A r.p = -2
    · have e : uniStep A l r = setOk l r.p r.hop := by unfold uniStep; rw [if_pos c]
      rw [e]
      have hw2 : Wf (setOk l r.p r.hop) := wf_set hw o1 (.inr o2)
      have hl2 : (setOk l r.p r.hop).length ≤ l.length + 1 := by
        rcases split_wf hw o1 with ⟨_, g, _⟩ | ⟨g, _, _⟩
        · have := congrArg List.length g
          rw [List.length_append] at this
          unfold setOk mid
          rw [if_neg hr2, List.length_append, List.length_append, List.length_singleton]
          omega
        · exact absurd (hn r (List.mem_cons_self ..) c) g
      obtain ⟨a1, a2, a3⟩ := uni_in A B (setOk l r.p r.hop) hw2 (fun s hs => ho s (List.mem_cons_of_mem _ hs)) k2 (fun s hs hsA => by
        have hne : s.p ≠ r.p := fun e => by have := k1 s hs; rw [e] at this; exact less_irrefl _ this
        rw [get_other hw o1 _ hne (.inr o2)]
        exact hn s (List.mem_cons_of_mem _ hs) hsA)
      refine ⟨a1, by rw [List.length_cons]; omega, fun q => ?_⟩
      rw [a3 q]
      by_cases hq : q = r.p
      · subst hq
        rw [get_set o1]
        exact ⟨fun _ => .inr ⟨r, List.mem_cons_self .., rfl, c⟩, fun _ => .inl hr2⟩
      · rw [get_other hw o1 _ hq (.inr o2)]
        constructor
        · rintro (h | ⟨s, hs, h⟩)
          · exact .inl h
          · exact .inr ⟨s, List.mem_cons_of_mem _ hs, h⟩
        · rintro (h | ⟨s, hs, h⟩)
          · exact .inl h
          · rcases List.mem_cons.1 hs with rfl | hs
            · exact absurd h.1.symm hq
            · exact .inr ⟨s, hs, h⟩
    · have e : uniStep A l r = l := by unfold uniStep; rw [if_neg c]
      rw [e]
      obtain ⟨a1, a2, a3⟩ := uni_in A B l hw (fun s hs => ho s (List.mem_cons_of_mem _ hs)) k2 (fun s hs hsA => hn s (List.mem_cons_of_mem _ hs) hsA)
      refine ⟨a1, by rw [List.length_cons]; omega, fun q => ?_⟩
      rw [a3 q]
      constructor
      · rintro (h | ⟨s, hs, h⟩)
        · exact .inl h
        · exact .inr ⟨s, List.mem_cons_of_mem _ hs, h⟩
      · rintro (h | ⟨s, hs, h⟩)
        · exact .inl h
        · rcases List.mem_cons.1 hs with rfl | hs
          · rw [h.1] at c; exact absurd h.2 c
          · exact .inr ⟨s, hs, h⟩
theorem uni_wf {A B : List Rt} (ha : Wf A) (hb : Wf B) : Wf (uni A B) ∧ (uni A B).length ≤ A.length + B.length ∧ ∀ q, get (uni A B) q ≠ -2 ↔ (get A q ≠ -2 ∨ get B q ≠ -2) := by
  obtain ⟨h1, h2, h3⟩ := uni_in A B A ha hb.1 hb.2 (fun _ _ h => h)
  refine ⟨h1, h2, fun q => ?_⟩
  show get (B.foldl (uniStep A) A) q ≠ -2 ↔ _
  rw [h3 q]
  constructor
  · rintro (h | ⟨r, hr, rfl, _⟩)
    · exact .inl h
    · exact .inr (by rw [get_mem hb hr]; exact hop_ne hb hr)
  · rintro (h | h)
    · exact .inl h
    · by_cases c : get A q = -2
      · exact .inr ⟨_, mem_get hb h, rfl, c⟩
      · exact .inl c
/-- The changes at prefixes. -/
def chOf (A B : List Rt) (p : Pf) : List Ch := if get A p = get B p then [] else [⟨p, get A p, get B p⟩]
def chs (A B : List Rt) : List Ch := (uni A B).flatMap fun r => chOf A B r.p
def IsCh (A B : List Rt) (c : Ch) : Prop := c.old = get A c.p ∧ c.new = get B c.p ∧ c.old ≠ c.new
theorem chOf_mem {A B : List Rt} {p : Pf} {c : Ch} : c ∈ chOf A B p ↔ c.p = p ∧ IsCh A B c := by
  unfold chOf IsCh
  by_cases e : get A p = get B p
  · rw [if_pos e]
    constructor
    · intro h; cases h
    · rintro ⟨rfl, h1, h2, h3⟩
      exact absurd (by rw [h1, h2, e]) h3
  · rw [if_neg e, List.mem_singleton]
    constructor
    · rintro rfl
      exact ⟨rfl, rfl, rfl, e⟩
    · rintro ⟨rfl, h1, h2, _⟩
      cases c
      simp_all
theorem IsCh.ok {A B : List Rt} {c : Ch} (h : IsCh A B c) : get A c.p ≠ -2 ∨ get B c.p ≠ -2 := by
  obtain ⟨h1, h2, h3⟩ := h
  by_cases e : get A c.p = -2
  · right
    intro k
    exact h3 (by rw [h1, h2, e, k])
  · exact .inl e
theorem chs_mem {A B : List Rt} (ha : Wf A) (hb : Wf B) (c : Ch) : c ∈ chs A B ↔ IsCh A B c := by
  obtain ⟨h1, _, h3⟩ := uni_wf ha hb
  unfold chs
  rw [List.mem_flatMap]
  constructor
  · rintro ⟨r, _, h⟩
    exact (chOf_mem.1 h).2
  · intro h
    exact ⟨_, mem_get h1 ((h3 c.p).2 h.ok), chOf_mem.2 ⟨rfl, h⟩⟩
theorem flat_pair {A B : List Rt} : ∀ U : List Rt, U.Pairwise (fun r s => less r.p s.p) → (U.flatMap fun r => chOf A B r.p).Pairwise (fun a b => less a.p b.p)
  | [], _ => List.Pairwise.nil
  | r :: U, h => by
    obtain ⟨k1, k2⟩ := List.pairwise_cons.1 h
    rw [List.flatMap_cons, List.pairwise_append]
    refine ⟨?_, flat_pair U k2, fun a ha b hb => ?_⟩
    · unfold chOf
      split
      · exact List.Pairwise.nil
      · simp
    · rw [List.mem_flatMap] at hb
      obtain ⟨s, hs, hb⟩ := hb
      rw [(chOf_mem.1 ha).1, (chOf_mem.1 hb).1]
      exact k1 s hs
theorem chs_pair {A B : List Rt} (ha : Wf A) (hb : Wf B) : (chs A B).Pairwise (fun a b => less a.p b.p) := flat_pair _ (uni_wf ha hb).1.2
theorem chs_len {A B : List Rt} (ha : Wf A) (hb : Wf B) : (chs A B).length ≤ A.length + B.length := by
  refine Nat.le_trans (sorted_len (fun c : Ch => c.p) (fun r : Rt => r.p) (uni A B) (chs A B) (chs_pair ha hb) (uni_wf ha hb).1.2 (fun c hc => ?_)) (uni_wf ha hb).2.1
  have h := (chs_mem ha hb c).1 hc
  exact ⟨_, mem_get (uni_wf ha hb).1 (((uni_wf ha hb).2.2 c.p).2 h.ok), rfl⟩
/-- What Diff collects, ahead of its sorting. -/
def df1 (A B : List Rt) : List Ch := A.flatMap fun r => if get B r.p = r.hop then [] else [⟨r.p, r.hop, get B r.p⟩]
def df2 (A B : List Rt) : List Ch := B.flatMap fun r => if get A r.p = -2 then [⟨r.p, -2, r.hop⟩] else []
theorem df1_eq {A B : List Rt} (ha : Wf A) : df1 A B = A.flatMap fun r => chOf A B r.p := by
  unfold df1
  have : ∀ L : List Rt, (∀ r ∈ L, r ∈ A) → (L.flatMap fun r => if get B r.p = r.hop then ([] : List Ch) else [⟨r.p, r.hop, get B r.p⟩]) = L.flatMap fun r => chOf A B r.p := by
    intro L
    induction L with
    | nil => intro _; rfl
    | cons r L ih =>
      intro h
      rw [List.flatMap_cons, List.flatMap_cons, ih (fun s hs => h s (List.mem_cons_of_mem _ hs))]
      congr 1
      unfold chOf
      rw [get_mem ha (h r (List.mem_cons_self ..))]
      by_cases e : get B r.p = r.hop
      · rw [if_pos e, if_pos e.symm]
      · rw [if_neg e, if_neg (fun k => e k.symm)]
  exact this A (fun _ h => h)
theorem df2_mem {A B : List Rt} (hb : Wf B) (c : Ch) : c ∈ df2 A B ↔ IsCh A B c ∧ get A c.p = -2 := by
  unfold df2 IsCh
  rw [List.mem_flatMap]
  constructor
  · rintro ⟨r, hr, h⟩
    split at h
    · rename_i e
      rw [List.mem_singleton] at h
      subst h
      exact ⟨⟨e.symm, (get_mem hb hr).symm, (hop_ne hb hr).symm⟩, e⟩
    · cases h
  · rintro ⟨⟨h1, h2, h3⟩, h4⟩
    have : get B c.p ≠ -2 := fun k => h3 (by rw [h1, h2, h4, k])
    refine ⟨_, mem_get hb this, ?_⟩
    dsimp only
    rw [if_pos h4, List.mem_singleton]
    cases c
    simp_all
theorem df1_mem {A B : List Rt} (ha : Wf A) (c : Ch) : c ∈ df1 A B ↔ IsCh A B c ∧ get A c.p ≠ -2 := by
  rw [df1_eq ha, List.mem_flatMap]
  constructor
  · rintro ⟨r, hr, h⟩
    obtain ⟨h1, h2⟩ := chOf_mem.1 h
    exact ⟨h2, by rw [h1, get_mem ha hr]; exact hop_ne ha hr⟩
  · rintro ⟨h1, h2⟩
    exact ⟨_, mem_get ha h2, chOf_mem.2 ⟨rfl, h1⟩⟩
theorem df_mem {A B : List Rt} (ha : Wf A) (hb : Wf B) (c : Ch) : c ∈ df1 A B ++ df2 A B ↔ c ∈ chs A B := by
  rw [List.mem_append, df1_mem ha, df2_mem hb, chs_mem ha hb]
  constructor
  · rintro (h | h) <;> exact h.1
  · intro h
    by_cases e : get A c.p = -2
    · exact .inr ⟨h, e⟩
    · exact .inl ⟨h, e⟩
theorem df2_pair {A B : List Rt} (hb : Wf B) : (df2 A B).Pairwise (fun a b => less a.p b.p) := by
  unfold df2
  have : ∀ L : List Rt, L.Pairwise (fun r s => less r.p s.p) → (L.flatMap fun r => if get A r.p = -2 then ([⟨r.p, -2, r.hop⟩] : List Ch) else []).Pairwise (fun a b => less a.p b.p) := by
    intro L
    induction L with
    | nil => intro _; exact List.Pairwise.nil
    | cons r L ih =>
      intro h
      obtain ⟨k1, k2⟩ := List.pairwise_cons.1 h
      rw [List.flatMap_cons, List.pairwise_append]
      refine ⟨?_, ih k2, fun a ha b hb => ?_⟩
      · split
        · simp
        · exact List.Pairwise.nil
      · rw [List.mem_flatMap] at hb
        obtain ⟨s, hs, hb⟩ := hb
        have e1 : a.p = r.p := by
          split at ha
          · rw [List.mem_singleton] at ha; rw [ha]
          · cases ha
        have e2 : b.p = s.p := by
          split at hb
          · rw [List.mem_singleton] at hb; rw [hb]
          · cases hb
        rw [e1, e2]
        exact k1 s hs
  exact this B hb.2
/-- No prefix twice. -/
theorem df_apart {A B : List Rt} (ha : Wf A) (hb : Wf B) : (df1 A B ++ df2 A B).Pairwise (fun a b => a.p ≠ b.p) := by
  have hne : ∀ a b : Ch, less a.p b.p → a.p ≠ b.p := fun a b h e => by rw [e] at h; exact less_irrefl _ h
  rw [List.pairwise_append]
  refine ⟨?_, (df2_pair hb).imp (fun {a b} h => hne a b h), fun a h1 b h2 e => ?_⟩
  · rw [df1_eq ha]
    exact (flat_pair A ha.2).imp (fun {a b} h => hne a b h)
  · have k1 := ((df1_mem ha a).1 h1).2
    have k2 := ((df2_mem hb b).1 h2).2
    rw [e] at k1
    exact k1 k2
theorem df_len {A B : List Rt} : (df1 A B ++ df2 A B).length ≤ A.length + B.length := by
  have h1 : ∀ L : List Rt, (L.flatMap fun r => if get B r.p = r.hop then ([] : List Ch) else [⟨r.p, r.hop, get B r.p⟩]).length ≤ L.length := by
    intro L
    induction L with
    | nil => simp
    | cons r L ih =>
      rw [List.flatMap_cons, List.length_append, List.length_cons]
      split
      · simp only [List.length_nil]; omega
      · simp only [List.length_singleton]; omega
  have h2 : ∀ L : List Rt, (L.flatMap fun r => if get A r.p = -2 then ([⟨r.p, -2, r.hop⟩] : List Ch) else []).length ≤ L.length := by
    intro L
    induction L with
    | nil => simp
    | cons r L ih =>
      rw [List.flatMap_cons, List.length_append, List.length_cons]
      split
      · simp only [List.length_singleton]; omega
      · simp only [List.length_nil]; omega
  rw [List.length_append]
  exact Nat.add_le_add (h1 A) (h2 B)
/-- The number that rises as prefixes do. -/
def ordN (p : Pf) : Int := fst p * 9 + p.len
theorem ordN_less {p q : Pf} (hp : Tb.ok p) (hq : Tb.ok q) : ordN p - ordN q < 0 ↔ less p q := by
  unfold ordN less
  have := hp.1; have := hp.2.1; have := hq.1; have := hq.2.1
  omega
/-- Whatever order the same changes come in: sorted they are these. -/
theorem sorted_chs {A B : List Rt} (ha : Wf A) (hb : Wf B) {l : List Ch} (hm : ∀ c, c ∈ l ↔ c ∈ df1 A B ++ df2 A B) (hd : l.Pairwise (fun a b => a.p ≠ b.p)) (hs : l.Pairwise (fun a b => ¬ ordN b.p - ordN a.p < 0)) : l = chs A B := by
  have hok : ∀ c ∈ l, Tb.ok c.p := fun c hc => by
    have := (chs_mem ha hb c).1 ((df_mem ha hb c).1 ((hm c).1 hc))
    exact Classical.byContradiction fun k => by
      rcases this.ok with h | h
      · exact h (get_no k)
      · exact h (get_no k)
  refine sorted_ext (fun c => c.p) l (chs A B) ?_ (chs_pair ha hb) (fun c => by rw [hm c]; exact df_mem ha hb c)
  have h2 := hd.and hs
  have h3 : l.Pairwise (fun a b => a ∈ l ∧ b ∈ l) := List.pairwise_of_forall_mem_list (fun a ha b hb => ⟨ha, hb⟩)
  refine (h2.and h3).imp (fun {a b} h => ?_)
  obtain ⟨⟨k1, k2⟩, k3, k4⟩ := h
  rw [ordN_less (hok b k4) (hok a k3)] at k2
  exact Classical.byContradiction fun k => k1 (less_total (hok a k3) (hok b k4) k k2)
end Go.Proofs.Ytdkkeaegmmepfaa.Tb
/- Changes done to a table; no program. -/
namespace Go.Proofs.Ytdkkeaegmmepfaa.Tb

/-- One change done: routes, a code. -/
def stepC (L : List Rt) (c : Ch) : List Rt × Int := if get L c.p ≠ c.old then (L, 11) else (setL L c.p c.new, setC L c.p c.new)
/-- Those that take away, or the others. -/
def pass (away : Bool) : List Ch → List Rt → List Rt × Int
  | [], L => (L, 0)
  | c :: r, L => if (decide (c.new = -2) != away) = true then pass away r L else if (stepC L c).2 ≠ 0 then stepC L c else pass away r (stepC L c).1
def done (c : List Ch) (L : List Rt) : List Rt × Int := if (pass true c L).2 ≠ 0 then pass true c L else pass false c (pass true c L).1
theorem stepC_ok {L : List Rt} (hw : Wf L) (hl : L.length ≤ 40) (c : Ch) : Wf (stepC L c).1 ∧ (stepC L c).1.length ≤ 40 := by
  unfold stepC
  split
  · exact ⟨hw, hl⟩
  · exact setL_ok hw hl _ _
theorem pass_ok (away : Bool) : ∀ (D : List Ch) (L : List Rt), Wf L → L.length ≤ 40 → Wf (pass away D L).1 ∧ (pass away D L).1.length ≤ 40
  | [], L, hw, hl => ⟨hw, hl⟩
  | c :: r, L, hw, hl => by
    unfold pass
    split
    · exact pass_ok away r L hw hl
    · split
      · exact stepC_ok hw hl c
      · obtain ⟨a, b⟩ := stepC_ok hw hl c
        exact pass_ok away r _ a b
theorem done_ok (D : List Ch) {L : List Rt} (hw : Wf L) (hl : L.length ≤ 40) : Wf (done D L).1 ∧ (done D L).1.length ≤ 40 := by
  obtain ⟨a, b⟩ := pass_ok true D L hw hl
  unfold done
  split
  · exact ⟨a, b⟩
  · exact pass_ok false D _ a b
/-- What is told, done: first what takes away. -/
theorem pass_away {A B : List Rt} : ∀ (D : List Ch) (L : List Rt), Wf L → D.Pairwise (fun a b => less a.p b.p) → (∀ c ∈ D, IsCh A B c) → (∀ c ∈ D, get L c.p = c.old) →
    ∃ M, pass true D L = (M, 0) ∧ Wf M ∧ (∀ c ∈ D, c.new = -2 → get M c.p = -2) ∧ (∀ q, (∀ c ∈ D, c.new = -2 → c.p ≠ q) → get M q = get L q)
  | [], L, hw, _, _, _ => ⟨L, rfl, hw, fun c hc => (by cases hc), fun q _ => rfl⟩
  | c :: D, L, hw, hpw, hi, hg => by
    obtain ⟨k1, k2⟩ := List.pairwise_cons.1 hpw
    have hc := hi c (List.mem_cons_self ..)
    have hgc := hg c (List.mem_cons_self ..)
    by_cases e : c.new = -2
    · have hold : get L c.p ≠ -2 := fun k => hc.2.2 (by rw [← hgc, k, e])
      obtain ⟨s1, s2, _, s4⟩ := take_away hw hold
      have hother : ∀ q, q ≠ c.p → get (setL L c.p (-2)) q = get L q := fun q hq => by rw [get_setL hw s1, if_neg hq]
      obtain ⟨M, h1, h2, h3, h4⟩ := pass_away D (setL L c.p (-2)) s2 k2 (fun x hx => hi x (List.mem_cons_of_mem _ hx)) (fun x hx => by
        rw [hother x.p (fun q => by have := k1 x hx; rw [q] at this; exact less_irrefl _ this)]
        exact hg x (List.mem_cons_of_mem _ hx))
      refine ⟨M, ?_, h2, ?_, ?_⟩
      · unfold pass
        rw [e, if_neg (by simp)]
        have es : stepC L c = (setL L c.p (-2), 0) := by unfold stepC; rw [if_neg (fun k => k hgc), e, s1]
        rw [es, if_neg (by simp)]
        exact h1
      · intro x hx hn
        rcases List.mem_cons.1 hx with rfl | hx
        · rw [h4 x.p (fun y hy _ q => by have := k1 y hy; rw [q] at this; exact less_irrefl _ this), s4]
        · exact h3 x hx hn
      · intro q hq
        rw [h4 q (fun y hy => hq y (List.mem_cons_of_mem _ hy))]
        exact hother q (fun k => hq c (List.mem_cons_self ..) e k.symm)
    · obtain ⟨M, h1, h2, h3, h4⟩ := pass_away D L hw k2 (fun x hx => hi x (List.mem_cons_of_mem _ hx)) (fun x hx => hg x (List.mem_cons_of_mem _ hx))
      refine ⟨M, ?_, h2, ?_, ?_⟩
      · unfold pass
        rw [if_pos (by simp [e])]
        exact h1
      · intro x hx hn
        rcases List.mem_cons.1 hx with rfl | hx
        · exact absurd hn e
        · exact h3 x hx hn
      · intro q hq
        exact h4 q (fun y hy => hq y (List.mem_cons_of_mem _ hy))
theorem pass_put {A B : List Rt} (hb : Wf B) (hl : B.length ≤ 40) : ∀ (D : List Ch) (L : List Rt), Wf L → D.Pairwise (fun a b => less a.p b.p) → (∀ c ∈ D, IsCh A B c) → (∀ c ∈ D, c.new ≠ -2 → get L c.p = c.old) → (∀ q, get L q ≠ -2 → get B q ≠ -2) →
    ∃ M, pass false D L = (M, 0) ∧ Wf M ∧ (∀ c ∈ D, c.new ≠ -2 → get M c.p = c.new) ∧ (∀ q, (∀ c ∈ D, c.new ≠ -2 → c.p ≠ q) → get M q = get L q)
  | [], L, hw, _, _, _, _ => ⟨L, rfl, hw, fun c hc => (by cases hc), fun q _ => rfl⟩
  | c :: D, L, hw, hpw, hi, hg, hLB => by
    obtain ⟨k1, k2⟩ := List.pairwise_cons.1 hpw
    have hc := hi c (List.mem_cons_self ..)
    by_cases e : c.new = -2
    · obtain ⟨M, h1, h2, h3, h4⟩ := pass_put hb hl D L hw k2 (fun x hx => hi x (List.mem_cons_of_mem _ hx)) (fun x hx => hg x (List.mem_cons_of_mem _ hx)) hLB
      refine ⟨M, ?_, h2, ?_, ?_⟩
      · unfold pass
        rw [if_pos (by simp [e])]
        exact h1
      · intro x hx hn
        rcases List.mem_cons.1 hx with rfl | hx
        · exact absurd e hn
        · exact h3 x hx hn
      · intro q hq
        exact h4 q (fun y hy => hq y (List.mem_cons_of_mem _ hy))
    · have hgc := hg c (List.mem_cons_self ..) e
      have hnew : get B c.p ≠ -2 := by rw [← hc.2.1]; exact e
      have hp : Tb.ok c.p := Classical.byContradiction fun k => hnew (get_no k)
      have hok : hopOK c.new := by rw [hc.2.1]; exact (hb.1 _ (mem_get hb hnew)).2
      have hw2 : Wf (setOk L c.p c.new) := wf_set hw hp (.inr hok)
      have hLB2 : ∀ q, get (setOk L c.p c.new) q ≠ -2 → get B q ≠ -2 := fun q hq => by
        by_cases k : q = c.p
        · rw [k]; exact hnew
        · rw [get_other hw hp _ k (.inr hok)] at hq
          exact hLB q hq
      have s1 : setC L c.p c.new = 0 := by
        unfold setC
        rw [if_neg, if_neg, if_neg]
        · rintro ⟨q1, q2⟩
          have hlen : (setOk L c.p c.new).length = L.length + 1 := by
            rcases split_wf hw hp with ⟨_, g, _⟩ | ⟨g, _, _⟩
            · have := congrArg List.length g
              rw [List.length_append] at this
              unfold setOk mid
              rw [if_neg e, List.length_append, List.length_append, List.length_singleton]
              omega
            · exact absurd q1 g
          have := sorted_len (fun r : Rt => r.p) (fun r : Rt => r.p) B (setOk L c.p c.new) hw2.2 hb.2 (fun r hr => ⟨_, mem_get hb (hLB2 r.p (by rw [get_mem hw2 hr]; exact hop_ne hw2 hr)), rfl⟩)
          omega
        · exact fun q => e q.2
        · rintro (q | q)
          · exact q hp
          · exact q.2 hok
      have hother : ∀ q, q ≠ c.p → get (setL L c.p c.new) q = get L q := fun q hq => by rw [get_setL hw s1, if_neg hq]
      have es : stepC L c = (setL L c.p c.new, 0) := by unfold stepC; rw [if_neg (fun k => k hgc), s1]
      obtain ⟨M, h1, h2, h3, h4⟩ := pass_put hb hl D (setL L c.p c.new) (by rw [setL_eq s1]; exact hw2) k2 (fun x hx => hi x (List.mem_cons_of_mem _ hx)) (fun x hx hn => by
        rw [hother x.p (fun q => by have := k1 x hx; rw [q] at this; exact less_irrefl _ this)]
        exact hg x (List.mem_cons_of_mem _ hx) hn) (by rw [setL_eq s1]; exact hLB2)
      refine ⟨M, ?_, h2, ?_, ?_⟩
      · unfold pass
        rw [if_neg (by simp [e]), es, if_neg (by simp)]
        exact h1
      · intro x hx hn
        rcases List.mem_cons.1 hx with rfl | hx
        · rw [h4 x.p (fun y hy _ q => by have := k1 y hy; rw [q] at this; exact less_irrefl _ this), get_setL hw s1, if_pos rfl]
        · exact h3 x hx hn
      · intro q hq
        rw [h4 q (fun y hy => hq y (List.mem_cons_of_mem _ hy))]
        exact hother q (fun k => hq c (List.mem_cons_self ..) e k.symm)
/-- Done, it is the other one. -/
theorem done_chs {A B : List Rt} (ha : Wf A) (hb : Wf B) (hl : B.length ≤ 40) : done (chs A B) A = (B, 0) := by
  have hm := chs_mem ha hb
  obtain ⟨M, h1, h2, h3, h4⟩ := pass_away (chs A B) A ha (chs_pair ha hb) (fun c hc => (hm c).1 hc) (fun c hc => ((hm c).1 hc).1.symm)
  have hstay : ∀ q, (∀ c ∈ chs A B, c.new = -2 → c.p ≠ q) → get M q = get A q := h4
  obtain ⟨N, n1, n2, n3, n4⟩ := pass_put hb hl (chs A B) M h2 (chs_pair ha hb) (fun c hc => (hm c).1 hc) (fun c hc hn => by
    rw [hstay c.p (fun x hx hxn e => by
      have a := (hm x).1 hx
      have b := (hm c).1 hc
      exact hn (by rw [b.2.1, ← e, ← hxn, a.2.1]))]
    exact ((hm c).1 hc).1.symm) (fun q hq k => by
    by_cases e : get A q = -2
    · rw [hstay q (fun x hx hxn ex => by
        have a := (hm x).1 hx
        exact a.2.2 (by rw [a.1, ex, e, hxn]))] at hq
      exact hq e
    · have hx : (⟨q, get A q, get B q⟩ : Ch) ∈ chs A B := (hm _).2 ⟨rfl, rfl, by dsimp only; rw [k]; exact e⟩
      exact hq (h3 _ hx k))
  have hN : N = B := wf_ext n2 hb (fun q => by
    by_cases e : get A q = get B q
    · rw [n4 q (fun x hx _ ex => by
        have a := (hm x).1 hx
        exact a.2.2 (by rw [a.1, a.2.1, ex, e])), hstay q (fun x hx _ ex => by
        have a := (hm x).1 hx
        exact a.2.2 (by rw [a.1, a.2.1, ex, e]))]
      exact e
    · have hx : (⟨q, get A q, get B q⟩ : Ch) ∈ chs A B := (hm _).2 ⟨rfl, rfl, e⟩
      by_cases k : get B q = -2
      · rw [n4 q (fun x hx2 hxn ex => by
          have a := (hm x).1 hx2
          exact hxn (by rw [a.2.1, ex, k])), k]
        exact h3 _ hx k
      · exact n3 _ hx k)
  unfold done
  rw [h1, if_neg (by simp), n1, hN]
theorem chs_self (A : List Rt) : chs A A = [] := by
  unfold chs
  rw [List.flatMap_eq_nil_iff]
  intro r _
  unfold chOf
  rw [if_pos rfl]
def nthC (L : List Ch) (k : Nat) : Ch := L.getD k default
theorem nthC_mem {L : List Ch} {k : Nat} (h : k < L.length) : nthC L k ∈ L := by
  unfold nthC
  rw [List.getD_eq_getElem?_getD, List.getElem?_eq_getElem h]
  exact List.getElem_mem h
theorem nthC_less {L : List Ch} (h : L.Pairwise (fun a b => less a.p b.p)) {i k : Nat} (hi : i < k) (hk : k < L.length) : less (nthC L i).p (nthC L k).p := by
  have := (List.pairwise_iff_getElem.1 h) i k (by omega) hk hi
  unfold nthC
  rw [List.getD_eq_getElem?_getD, List.getElem?_eq_getElem (by omega : i < L.length), List.getD_eq_getElem?_getD, List.getElem?_eq_getElem hk]
  exact this
end Go.Proofs.Ytdkkeaegmmepfaa.Tb
/- Wishes and routes of a trie: the same as those of where all addresses go; no program. -/
namespace Go.Proofs.Ytdkkeaegmmepfaa.Tb

def wshT : Tr → Int → Bool
  | .leaf _ x => fun h => h == x
  | .node _ l r => mix (wshT l) (wshT r)
def HopT : Tr → Prop
  | .leaf _ x => hopOK x
  | .node _ l r => HopT l ∧ HopT r
theorem wshT_wish : ∀ T, HopT T → Wish (wshT T)
  | .leaf _ x, h => ⟨fun k hk => by
      have e : k = x := by simpa [wshT] using hk
      rw [e]; exact h, x, by simp [wshT]⟩
  | .node _ l r, h => (wshT_wish l h.1).mix (wshT_wish r h.2)
theorem mkT_hop : ∀ (d : Nat) (p : Pf) (hs : List Int), Fit d p hs → HopsOK hs → HopT (mkT d p hs) ∧ wshT (mkT d p hs) = wsh d hs
  | 0, p, hs, hf, hh => ⟨hh 0 hf.pos, rfl⟩
  | d + 1, p, hs, hf, hh => by
    by_cases ha : alike hs
    · rw [(mkT_alike (d + 1) p hs hf).2 ha, (wsh_alike (d + 1) p hs hf hh ha).1]
      exact ⟨hh 0 hf.pos, rfl⟩
    · rw [mkT_node hf ha]
      obtain ⟨a1, a2⟩ := mkT_hop d _ _ hf.low hh.low
      obtain ⟨b1, b2⟩ := mkT_hop d _ _ hf.high hh.high
      refine ⟨⟨a1, b1⟩, ?_⟩
      show mix _ _ = mix _ _
      rw [a2, b2]
/-- The hops that are wished, in order. -/
def W (f : Int → Bool) : List Int := hops7.filter f
theorem W_mem {f : Int → Bool} (hf : Wish f) {h : Int} : h ∈ W f ↔ f h = true := by
  unfold W
  rw [List.mem_filter]
  exact ⟨fun k => k.2, fun k => ⟨mem7.2 (hf.1 h k), k⟩⟩
theorem W_sorted (f : Int → Bool) : (W f).Pairwise (· < ·) := List.Pairwise.filter f (by unfold hops7; decide)
theorem W_leaf {x : Int} (h : hopOK x) : W (fun k => k == x) = [x] := by
  unfold hopOK at h
  have : x = -1 ∨ x = 0 ∨ x = 1 ∨ x = 2 ∨ x = 3 ∨ x = 4 ∨ x = 5 := by omega
  rcases this with rfl | rfl | rfl | rfl | rfl | rfl | rfl <;> decide
theorem W_len (f : Int → Bool) : (W f).length ≤ 7 := List.length_filter_le _ _
theorem W_pos {f : Int → Bool} (hf : Wish f) : 0 < (W f).length := by
  obtain ⟨h, hh⟩ := hf.2
  exact List.length_pos_of_mem ((W_mem hf).2 hh)
theorem W_head {f : Int → Bool} : (W f).getD 0 0 = fstW f := by
  unfold fstW W
  cases hops7.filter f <;> rfl
/-- Of the first half's those that the second one has. -/
def common (A B : List Int) : List Int := A.filter fun h => B.contains h
theorem common_snoc (A B : List Int) (x : Int) : common (A ++ [x]) B = common A B ++ if B.contains x then [x] else [] := by
  unfold common
  rw [List.filter_append]
  congr 1
  by_cases h : B.contains x = true
  · rw [if_pos h, List.filter_cons_of_pos h]; rfl
  · rw [if_neg h, List.filter_cons_of_neg h]; rfl
theorem common_W {a b : Int → Bool} (_ : Wish a) (hb : Wish b) : common (W a) (W b) = W (fun h => a h && b h) := by
  unfold common
  have e : ∀ h, (W b).contains h = b h := fun h => by
    rw [Bool.eq_iff_iff, List.contains_iff_mem, W_mem hb]
  have e2 : (fun h => (W b).contains h) = b := funext e
  rw [e2]
  unfold W
  rw [List.filter_filter]
  congr 1
  funext h
  exact Bool.and_comm _ _
theorem common_empty {a b : Int → Bool} (ha : Wish a) (hb : Wish b) : common (W a) (W b) = [] ↔ ¬ both a b = true := by
  rw [common_W ha hb]
  unfold W
  rw [List.filter_eq_nil_iff]
  unfold both
  rw [List.any_eq_true]
  constructor
  · rintro h ⟨x, hx, k⟩
    exact h x hx k
  · intro h x hx k
    exact h ⟨x, hx, k⟩
theorem mix_common {a b : Int → Bool} (ha : Wish a) (hb : Wish b) (h : common (W a) (W b) ≠ []) : common (W a) (W b) = W (mix a b) := by
  have hb' : both a b = true := Classical.byContradiction fun k => h ((common_empty ha hb).2 k)
  rw [common_W ha hb]
  congr 1
  funext x
  unfold mix
  rw [if_pos hb']
theorem int_sorted_ext : ∀ l m : List Int, l.Pairwise (· < ·) → m.Pairwise (· < ·) → (∀ x, x ∈ l ↔ x ∈ m) → l = m
  | [], [], _, _, _ => rfl
  | [], y :: m, _, _, h => by have := (h y).2 (List.mem_cons_self ..); cases this
  | x :: l, [], _, _, h => by have := (h x).1 (List.mem_cons_self ..); cases this
  | x :: l, y :: m, hl, hm, h => by
    obtain ⟨l1, l2⟩ := List.pairwise_cons.1 hl
    obtain ⟨m1, m2⟩ := List.pairwise_cons.1 hm
    have e : x = y := by
      rcases List.mem_cons.1 ((h x).1 (List.mem_cons_self ..)) with e | e
      · exact e
      · rcases List.mem_cons.1 ((h y).2 (List.mem_cons_self ..)) with k | k
        · exact k.symm
        · have := m1 x e; have := l1 y k; omega
    subst e
    congr 1
    refine int_sorted_ext l m l2 m2 (fun z => ⟨fun hz => ?_, fun hz => ?_⟩)
    · rcases List.mem_cons.1 ((h z).1 (List.mem_cons_of_mem _ hz)) with e | e
      · subst e; have := l1 z hz; omega
      · exact e
    · rcases List.mem_cons.1 ((h z).2 (List.mem_cons_of_mem _ hz)) with e | e
      · subst e; have := m1 z hz; omega
      · exact e
/-- Both sorted together, where they have none in common. -/
theorem mix_union {a b : Int → Bool} (ha : Wish a) (hb : Wish b) (h : common (W a) (W b) = []) {l : List Int} (hp : l.Perm (W a ++ W b)) (hs : l.Pairwise (· ≤ ·)) : l = W (mix a b) := by
  have hn := (common_empty ha hb).1 h
  have hm : ∀ x, mix a b x = (a x || b x) := fun x => by unfold mix; rw [if_neg hn]
  have hnd : l.Nodup := by
    rw [hp.nodup_iff, List.nodup_append]
    refine ⟨(W_sorted a).imp (fun {x y} k e => by omega), (W_sorted b).imp (fun {x y} k e => by omega), fun x hx y hy e => ?_⟩
    subst e
    exact hn (both_iff.2 ⟨x, ha.1 x ((W_mem ha).1 hx), (W_mem ha).1 hx, (W_mem hb).1 hy⟩)
  refine int_sorted_ext l _ ?_ (W_sorted _) (fun x => ?_)
  · exact (hs.and hnd).imp (fun {x y} k => by have := k.1; have := k.2; omega)
  · rw [hp.mem_iff, List.mem_append, W_mem ha, W_mem hb, W_mem (ha.mix hb), hm, Bool.or_eq_true]
/-- Routes for a part of a trie, in which all goes to h, if there is no route. -/
def layT : Tr → Int → List Rt
  | .leaf p x, h => made (wshT (.leaf p x)) p h
  | .node p l r, h => made (wshT (.node p l r)) p h ++ (layT l (pick (wshT (.node p l r)) h) ++ layT r (pick (wshT (.node p l r)) h))
theorem layT_mk : ∀ (d : Nat) (p : Pf) (hs : List Int) (h : Int), Fit d p hs → HopsOK hs → layT (mkT d p hs) h = least d p hs h
  | 0, _, _, _, _, _ => rfl
  | d + 1, p, hs, h, hf, hh => by
    have hw := (mkT_hop (d + 1) p hs hf hh).2
    unfold least
    by_cases ha : alike hs
    · rw [if_pos ha, List.append_nil]
      rw [(mkT_alike (d + 1) p hs hf).2 ha] at hw ⊢
      show made (wshT _) p h = _
      rw [hw]
    · rw [if_neg ha]
      rw [mkT_node hf ha] at hw ⊢
      show made (wshT _) p h ++ (layT _ (pick (wshT _) h) ++ layT _ (pick (wshT _) h)) = _
      rw [hw, layT_mk d _ _ _ hf.low hh.low, layT_mk d _ _ _ hf.high hh.high]
theorem layT_len : ∀ (T : Tr) (h : Int), (layT T h).length + 1 ≤ 2 * (leaves T).length
  | .leaf p x, h => by
    show (made _ p h).length + 1 ≤ 2 * 1
    rw [made_len]
    have := no_le (wshT (.leaf p x)) h
    omega
  | .node p l r, h => by
    show (made _ p h ++ (layT l _ ++ layT r _)).length + 1 ≤ 2 * (leaves l ++ leaves r).length
    rw [List.length_append, List.length_append, List.length_append, made_len]
    have := no_le (wshT (.node p l r)) h
    have := layT_len l (pick (wshT (.node p l r)) h)
    have := layT_len r (pick (wshT (.node p l r)) h)
    omega
theorem few_layT {L : List Rt} (hw : Wf L) : layT (mkT 8 ⟨0, 0⟩ (allOf L)) (-1) = few L := layT_mk 8 _ _ _ (fit_allOf L) (allOf_hops hw)
theorem lv_le : ∀ (d : Nat) (p : Pf) (hs : List Int), Fit d p hs → (lv d p hs).length ≤ hs.length
  | 0, _, _, h => by have := h.pos; simp [lv]; omega
  | d + 1, p, hs, h => by
    unfold lv
    split
    · have := h.pos; simp; omega
    · have a := lv_le d _ _ h.low
      have b := lv_le d _ _ h.high
      rw [lowH_len] at a
      rw [highH_len] at b
      rw [List.length_append]
      omega
theorem few_512 {L : List Rt} (hw : Wf L) : (few L).length ≤ 511 := by
  have h1 := layT_len (mkT 8 ⟨0, 0⟩ (allOf L)) (-1)
  rw [few_layT hw, mkT_leaves 8 _ _ (fit_allOf L)] at h1
  have h2 := lv_le 8 _ _ (fit_allOf L)
  rw [allOf_len] at h2
  omega
theorem few_256 {L : List Rt} (hw : Wf L) : (few L).length ≤ 256 := by
  have h1 := few_leaves hw
  have h2 := lv_le 8 _ _ (fit_allOf L)
  rw [allOf_len] at h2
  omega
end Go.Proofs.Ytdkkeaegmmepfaa.Tb
/- The table of as few routes as can be of one example; no program. -/
namespace Go.Proofs.Ytdkkeaegmmepfaa.Tb

def E3 : List Rt := [⟨⟨1, 0⟩, 3⟩, ⟨⟨2, 2⟩, 3⟩, ⟨⟨2, 3⟩, 4⟩]
def E2 : List Rt := [⟨⟨0, 0⟩, 3⟩, ⟨⟨2, 3⟩, 4⟩]
theorem alike_rep (n : Nat) (x : Int) : alike (List.replicate n x) := by
  intro k hk
  rw [List.length_replicate] at hk
  simp [List.getD_eq_getElem?_getD, hk, show 0 < n by omega]
theorem E_all : allOf E3 = List.replicate 192 3 ++ List.replicate 64 4 := by decide +kernel
theorem hopsOK_rep {n : Nat} {x : Int} (h : hopOK x) : HopsOK (List.replicate n x) := by
  intro k hk
  rw [List.length_replicate] at hk
  rw [List.getD_eq_getElem?_getD, List.getElem?_replicate, if_pos hk]
  exact h
theorem wsh_rep {d n : Nat} {p : Pf} {x : Int} (hf : Fit d p (List.replicate n x)) (hx : hopOK x) : wsh d (List.replicate n x) = fun h => h == x := by
  have e : (List.replicate n x).getD 0 0 = x := by
    have := hf.pos
    rw [List.length_replicate] at this
    rw [List.getD_eq_getElem?_getD, List.getElem?_replicate, if_pos this]
    rfl
  rw [(wsh_alike d p _ hf (hopsOK_rep hx) (alike_rep n x)).1, e]
theorem least_rep {d n : Nat} {p : Pf} {x : Int} (hf : Fit d p (List.replicate n x)) (hx : hopOK x) (h : Int) : least d p (List.replicate n x) h = made (fun k => k == x) p h := by
  have hw := wsh_rep hf hx
  cases d with
  | zero => show made (wsh 0 _) p h = _; rw [hw]
  | succ d =>
    unfold least
    rw [if_pos (alike_rep n x), List.append_nil, hw]
def H128 : List Int := List.replicate 64 3 ++ List.replicate 64 4
theorem low1 : lowH (List.replicate 192 3 ++ List.replicate 64 4) = List.replicate 128 3 := by decide +kernel
theorem high1 : highH (List.replicate 192 3 ++ List.replicate 64 4) = H128 := by decide +kernel
theorem low2 : lowH H128 = List.replicate 64 3 := by decide +kernel
theorem high2 : highH H128 = List.replicate 64 4 := by decide +kernel
theorem f8 : Fit 8 ⟨0, 0⟩ (List.replicate 192 3 ++ List.replicate 64 4) := ⟨by decide, by decide, by rw [List.length_append, List.length_replicate, List.length_replicate]; decide⟩
theorem f7h : Fit 7 ⟨1, 1⟩ H128 := ⟨by decide, by decide, by unfold H128; rw [List.length_append, List.length_replicate, List.length_replicate]; decide⟩
theorem f7l : Fit 7 ⟨1, 0⟩ (List.replicate 128 3) := ⟨by decide, by decide, by rw [List.length_replicate]; decide⟩
theorem f6l : Fit 6 ⟨2, 2⟩ (List.replicate 64 3) := ⟨by decide, by decide, by rw [List.length_replicate]; decide⟩
theorem f6h : Fit 6 ⟨2, 3⟩ (List.replicate 64 4) := ⟨by decide, by decide, by rw [List.length_replicate]; decide⟩
theorem wsh7 : wsh 7 H128 = mix (fun h => h == 3) (fun h => h == 4) := by
  show mix (wsh 6 (lowH H128)) (wsh 6 (highH H128)) = _
  rw [low2, high2, wsh_rep f6l (by decide), wsh_rep f6h (by decide)]
theorem wsh8 : wsh 8 (List.replicate 192 3 ++ List.replicate 64 4) = mix (fun h => h == 3) (mix (fun h => h == 3) (fun h => h == 4)) := by
  show mix (wsh 7 (lowH _)) (wsh 7 (highH _)) = _
  rw [low1, high1, wsh_rep f7l (by decide), wsh7]
theorem E_few : few E3 = E2 := by
  have n8 : ¬ alike (List.replicate 192 3 ++ List.replicate 64 4) := fun h => absurd (h 200 (by rw [List.length_append, List.length_replicate, List.length_replicate]; omega)) (by decide +kernel)
  have n7 : ¬ alike H128 := fun h => absurd (h 100 (by unfold H128; rw [List.length_append, List.length_replicate, List.length_replicate]; omega)) (by decide +kernel)
  have l7 : least 7 ⟨1, 1⟩ H128 3 = [⟨⟨2, 3⟩, 4⟩] := by
    unfold least
    rw [if_neg n7, wsh7, low2, high2]
    show _ ++ (least 6 ⟨2, 2⟩ _ _ ++ least 6 ⟨2, 3⟩ _ _) = _
    rw [least_rep f6l (by decide), least_rep f6h (by decide)]
    decide
  unfold few
  rw [E_all]
  unfold least
  rw [if_neg n8, wsh8, low1, high1]
  have e : pick (mix (fun h => h == 3) (mix (fun h => h == 3) (fun h => h == 4))) (-1) = 3 := by decide
  rw [e]
  show _ ++ (least 7 ⟨1, 0⟩ _ _ ++ least 7 ⟨1, 1⟩ _ _) = _
  rw [least_rep f7l (by decide), l7]
  decide
theorem E_chs : (chs E3 E2).length = 3 := by decide
theorem E_wf : Wf E3 := ⟨by decide, by decide⟩
theorem E_same : allOf E3 = allOf E2 := by rw [← E_few]; exact (few_all E_wf).symm
end Go.Proofs.Ytdkkeaegmmepfaa.Tb
