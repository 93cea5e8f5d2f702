/- Tries of where all addresses go; no program. -/
import Derived.Test.YteedndapbfihaaaGreatB26
namespace Go.Proofs.YteedndapbfihaaaGreat.Tb

inductive Tr where
  | leaf (p : Pf) (hop : Int)
  | node (p : Pf) (low high : Tr)
def Tr.root : Tr → Pf
  | .leaf p _ => p
  | .node p _ _ => p
def Tr.isLeaf : Tr → Bool
  | .leaf _ _ => true
  | .node _ _ _ => false
def Tr.hop0 : Tr → Int
  | .leaf _ h => h
  | .node _ _ _ => 0
def child (p : Pf) (bit : Int) : Pf := ⟨p.len + 1, p.bits * 2 + bit⟩
def join (p : Pf) (a b : Tr) : Tr := if a.isLeaf = true ∧ b.isLeaf = true ∧ a.hop0 = b.hop0 then .leaf p a.hop0 else .node p a b
def lowH (hs : List Int) : List Int := hs.take (hs.length / 2)
def highH (hs : List Int) : List Int := hs.drop (hs.length / 2)
def mkT : Nat → Pf → List Int → Tr
  | 0, p, hs => .leaf p (hs.getD 0 0)
  | d + 1, p, hs => join p (mkT d (child p 0) (lowH hs)) (mkT d (child p 1) (highH hs))
def leaves : Tr → List Rt
  | .leaf p h => [⟨p, h⟩]
  | .node _ l h => leaves l ++ leaves h
def alike (hs : List Int) : Prop := ∀ k, k < hs.length → hs.getD k 0 = hs.getD 0 0
instance (hs : List Int) : Decidable (alike hs) := by unfold alike; infer_instance
def lv : Nat → Pf → List Int → List Rt
  | 0, p, hs => [⟨p, hs.getD 0 0⟩]
  | d + 1, p, hs => if alike hs then [⟨p, hs.getD 0 0⟩] else lv d (child p 0) (lowH hs) ++ lv d (child p 1) (highH hs)
/-- A prefix, and where its addresses go. -/
def Fit (d : Nat) (p : Pf) (hs : List Int) : Prop := Tb.ok p ∧ p.len + d = 8 ∧ (hs.length : Int) = span p
theorem span_child {p : Pf} (_ : Tb.ok p) (hl : p.len < 8) (b : Int) : span p = span (child p b) * 2 := by
  unfold span child
  dsimp only
  rw [show (8 - p.len).toNat = (8 - (p.len + 1)).toNat + 1 from by omega, Int.pow_succ]
theorem ok_child {p : Pf} (h : Tb.ok p) (hl : p.len < 8) {b : Int} (h0 : 0 ≤ b) (h1 : b ≤ 1) : Tb.ok (child p b) := by
  obtain ⟨a1, a2, a3, a4⟩ := h
  refine ⟨by show 0 ≤ p.len + 1; omega, by show p.len + 1 ≤ 8; omega, by show 0 ≤ p.bits * 2 + b; omega, ?_⟩
  show p.bits * 2 + b < 2 ^ (p.len + 1).toNat
  rw [show (p.len + 1).toNat = p.len.toNat + 1 from by omega, Int.pow_succ]
  generalize (2 : Int) ^ p.len.toNat = X at *
  omega
theorem span_pos {p : Pf} (h : Tb.ok p) : 1 ≤ span p := by
  rcases ok_cases h with h | h | h | h | h | h | h | h | h <;> (obtain ⟨_, e, _⟩ := h; rw [e]; omega)
theorem fst_child {p : Pf} (h : Tb.ok p) (hl : p.len < 8) : fst (child p 0) = fst p ∧ fst (child p 1) = fst p + span (child p 1) := by
  rw [fst_ok h, fst_ok (ok_child h hl (by omega) (by omega)), fst_ok (ok_child h hl (by omega) (by omega))]
  have e0 := span_child h hl 0
  have e1 := span_child h hl 1
  generalize hs0 : span (child p 0) = s0 at *
  generalize hs1 : span (child p 1) = s1 at *
  have e : s0 = s1 := by omega
  subst e
  rw [e0]
  show (p.bits * 2 + 0) * s0 = p.bits * (s0 * 2) ∧ (p.bits * 2 + 1) * s0 = p.bits * (s0 * 2) + s0
  rw [Int.add_zero, Int.add_mul, Int.one_mul, Int.mul_assoc, Int.mul_comm 2 s0]
  exact ⟨rfl, rfl⟩
theorem lst_fst {p : Pf} (h : Tb.ok p) : lst p = fst p + span p - 1 := by rw [lst_ok h, fst_ok h]
theorem Fit.lt {d : Nat} {p : Pf} {hs : List Int} (h : Fit (d + 1) p hs) : p.len < 8 := by have := h.2.1; omega
theorem Fit.half {d : Nat} {p : Pf} {hs : List Int} (h : Fit (d + 1) p hs) : ((hs.length / 2 : Nat) : Int) = span (child p 0) ∧ span (child p 0) = span (child p 1) ∧ hs.length = hs.length / 2 + hs.length / 2 := by
  have e0 := span_child h.1 h.lt 0
  have e1 := span_child h.1 h.lt 1
  have := h.2.2
  omega
theorem lowH_len (hs : List Int) : (lowH hs).length = hs.length / 2 := by unfold lowH; rw [List.length_take]; omega
theorem highH_len (hs : List Int) : (highH hs).length = hs.length - hs.length / 2 := by unfold highH; rw [List.length_drop]
theorem lowH_get {hs : List Int} {k : Nat} (h : k < hs.length / 2) : (lowH hs).getD k 0 = hs.getD k 0 := by
  unfold lowH
  rw [List.getD_eq_getElem?_getD, List.getElem?_take, if_pos h, ← List.getD_eq_getElem?_getD]
theorem highH_get (hs : List Int) (k : Nat) : (highH hs).getD k 0 = hs.getD (hs.length / 2 + k) 0 := by
  unfold highH
  rw [List.getD_eq_getElem?_getD, List.getElem?_drop, ← List.getD_eq_getElem?_getD]
theorem Fit.low {d : Nat} {p : Pf} {hs : List Int} (h : Fit (d + 1) p hs) : Fit d (child p 0) (lowH hs) :=
  ⟨ok_child h.1 h.lt (by omega) (by omega), by show p.len + 1 + d = 8; have := h.2.1; omega, by rw [lowH_len]; exact h.half.1⟩
theorem Fit.high {d : Nat} {p : Pf} {hs : List Int} (h : Fit (d + 1) p hs) : Fit d (child p 1) (highH hs) :=
  ⟨ok_child h.1 h.lt (by omega) (by omega), by show p.len + 1 + d = 8; have := h.2.1; omega, by rw [highH_len]; have := h.half; omega⟩
theorem Fit.pos {d : Nat} {p : Pf} {hs : List Int} (h : Fit d p hs) : 0 < hs.length := by have := span_pos h.1; have := h.2.2; omega
theorem alike_half {d : Nat} {p : Pf} {hs : List Int} (h : Fit (d + 1) p hs) : alike hs ↔ alike (lowH hs) ∧ alike (highH hs) ∧ (lowH hs).getD 0 0 = (highH hs).getD 0 0 := by
  have hp := h.low.pos
  have hq := h.high.pos
  have hh := h.half.2.2
  rw [lowH_len] at hp
  constructor
  · intro ha
    refine ⟨fun k hk => ?_, fun k hk => ?_, ?_⟩
    · rw [lowH_len] at hk
      rw [lowH_get hk, lowH_get hp]
      exact ha k (by omega)
    · rw [highH_len] at hk
      rw [highH_get, highH_get]
      exact (ha _ (by omega)).trans (ha _ (by omega)).symm
    · rw [lowH_get hp, highH_get]
      exact (ha _ (by omega)).trans (ha _ (by omega)).symm
  · rintro ⟨h1, h2, h3⟩ k hk
    rw [lowH_get hp] at h3
    by_cases c : k < hs.length / 2
    · have := h1 k (by rw [lowH_len]; exact c)
      rwa [lowH_get c, lowH_get hp] at this
    · have := h2 (k - hs.length / 2) (by rw [highH_len]; omega)
      rw [← h3, highH_get, show hs.length / 2 + (k - hs.length / 2) = k from by omega] at this
      exact this
theorem mkT_alike : ∀ (d : Nat) (p : Pf) (hs : List Int), Fit d p hs → ((mkT d p hs).isLeaf = true ↔ alike hs) ∧ (alike hs → mkT d p hs = .leaf p (hs.getD 0 0))
  | 0, p, hs, h => by
    refine ⟨⟨fun _ k hk => ?_, fun _ => rfl⟩, fun _ => rfl⟩
    have h1 := h.2.2
    have h2 := h.2.1
    have : span p = 1 := by
      rcases ok_cases h.1 with h | h | h | h | h | h | h | h | h <;> (obtain ⟨e, e2, _⟩ := h; omega)
    have : k = 0 := by omega
    rw [this]
  | d + 1, p, hs, h => by
    obtain ⟨l1, l2⟩ := mkT_alike d (child p 0) (lowH hs) h.low
    obtain ⟨r1, r2⟩ := mkT_alike d (child p 1) (highH hs) h.high
    have ha := alike_half h
    have hl0 : (lowH hs).getD 0 0 = hs.getD 0 0 := lowH_get (by have := h.low.pos; rwa [lowH_len] at this)
    by_cases k : alike hs
    · obtain ⟨k1, k2, k3⟩ := ha.1 k
      have e : mkT (d + 1) p hs = .leaf p (hs.getD 0 0) := by
        show join p (mkT d (child p 0) (lowH hs)) (mkT d (child p 1) (highH hs)) = _
        rw [l2 k1, r2 k2]
        unfold join
        rw [if_pos ⟨rfl, rfl, k3⟩]
        show Tr.leaf p ((lowH hs).getD 0 0) = _
        rw [hl0]
      rw [e]
      exact ⟨⟨fun _ => k, fun _ => rfl⟩, fun _ => rfl⟩
    · have e : mkT (d + 1) p hs = .node p (mkT d (child p 0) (lowH hs)) (mkT d (child p 1) (highH hs)) := by
        show join p (mkT d (child p 0) (lowH hs)) (mkT d (child p 1) (highH hs)) = _
        unfold join
        rw [if_neg]
        rintro ⟨h1, h2, h3⟩
        refine k (ha.2 ⟨l1.1 h1, r1.1 h2, ?_⟩)
        rw [l2 (l1.1 h1), r2 (r1.1 h2)] at h3
        exact h3
      rw [e]
      exact ⟨⟨fun h => (by cases h), fun h => absurd h k⟩, fun h => absurd h k⟩
theorem mkT_node {d : Nat} {p : Pf} {hs : List Int} (h : Fit (d + 1) p hs) (k : ¬ alike hs) : mkT (d + 1) p hs = .node p (mkT d (child p 0) (lowH hs)) (mkT d (child p 1) (highH hs)) := by
  have hn : (mkT (d + 1) p hs).isLeaf ≠ true := fun e => k ((mkT_alike (d + 1) p hs h).1.1 e)
  revert hn
  show (join p (mkT d (child p 0) (lowH hs)) (mkT d (child p 1) (highH hs))).isLeaf ≠ true → join p (mkT d (child p 0) (lowH hs)) (mkT d (child p 1) (highH hs)) = _
  unfold join
  split
  · intro h; exact absurd rfl h
  · intro _; rfl
theorem mkT_leaves : ∀ (d : Nat) (p : Pf) (hs : List Int), Fit d p hs → leaves (mkT d p hs) = lv d p hs
  | 0, _, _, _ => rfl
  | d + 1, p, hs, h => by
    unfold lv
    by_cases k : alike hs
    · rw [if_pos k, (mkT_alike (d + 1) p hs h).2 k]; rfl
    · rw [if_neg k, mkT_node h k]
      show leaves _ ++ leaves _ = _
      rw [mkT_leaves d _ _ h.low, mkT_leaves d _ _ h.high]
/-- Routes side by side, from an address to an address. -/
def Chain : Int → List Rt → Int → Prop
  | s, [], e => s = e
  | s, r :: L, e => Tb.ok r.p ∧ fst r.p = s ∧ Chain (lst r.p + 1) L e
theorem Chain.app : ∀ {A B : List Rt} {s m e : Int}, Chain s A m → Chain m B e → Chain s (A ++ B) e
  | [], _, _, _, _, h, k => by
    have h : _ = _ := h
    rw [h]; exact k
  | _ :: _, _, _, _, _, h, k => ⟨h.1, h.2.1, Chain.app h.2.2 k⟩
end Go.Proofs.YteedndapbfihaaaGreat.Tb
/- Leaves as routes. -/
namespace Go.Proofs.YteedndapbfihaaaGreat.Tb

theorem fst00' : fst ⟨0, 0⟩ = 0 := by decide
theorem lst00' : lst ⟨0, 0⟩ + 1 = 256 := by decide
theorem look_hopOK {L : List Rt} (hw : Wf L) (a : Int) : hopOK (look L a) := by
  unfold look
  suffices h : ∀ (R : List Rt) (s : Int), (∀ r ∈ R, hopOK r.hop) → hopOK s → hopOK (R.foldl (lookF a) s) from h L (-1) (fun r hr => (hw.1 r hr).2) (by decide)
  intro R
  induction R with
  | nil => exact fun s _ h => h
  | cons q R ih =>
    intro s h1 h2
    rw [List.foldl_cons]
    refine ih _ (fun r hr => h1 r (List.mem_cons_of_mem _ hr)) ?_
    unfold lookF
    split
    · exact h1 q (List.mem_cons_self ..)
    · exact h2
def cnt (R : List Rt) (a : Int) : Nat := R.countP fun r => decide (has r.p a)
theorem allOf_ext {L M : List Rt} (h : ∀ n : Nat, n < 256 → look L n = look M n) : allOf L = allOf M := by
  unfold allOf
  apply List.map_congr_left
  intro n hn
  exact h n (List.mem_range.1 hn)
end Go.Proofs.YteedndapbfihaaaGreat.Tb
/- Tables of as few routes as can be: what the functions compute, and that no table has fewer; no program. -/
namespace Go.Proofs.YteedndapbfihaaaGreat.Tb

def hops7 : List Int := [-1, 0, 1, 2, 3, 4, 5]
theorem mem7 {h : Int} : h ∈ hops7 ↔ hopOK h := by
  unfold hops7 hopOK
  simp only [List.mem_cons, List.not_mem_nil, or_false]
  omega
def both (a b : Int → Bool) : Bool := hops7.any fun h => a h && b h
def mix (a b : Int → Bool) : Int → Bool := fun h => if both a b then a h && b h else a h || b h
/-- Which hops a part wishes. -/
def wsh : Nat → List Int → Int → Bool
  | 0, hs => fun h => h == hs.getD 0 0
  | d + 1, hs => mix (wsh d (lowH hs)) (wsh d (highH hs))
/-- How few routes beneath a part are enough. -/
def mn : Nat → List Int → Nat
  | 0, _ => 0
  | d + 1, hs => mn d (lowH hs) + mn d (highH hs) + if both (wsh d (lowH hs)) (wsh d (highH hs)) then 0 else 1
/-- All of them may be hops. -/
def HopsOK (hs : List Int) : Prop := ∀ k, k < hs.length → hopOK (hs.getD k 0)
theorem HopsOK.low {hs : List Int} (h : HopsOK hs) : HopsOK (lowH hs) := fun k hk => by
  rw [lowH_len] at hk
  rw [lowH_get hk]
  exact h k (by omega)
theorem HopsOK.high {hs : List Int} (h : HopsOK hs) : HopsOK (highH hs) := fun k hk => by
  rw [highH_len] at hk
  rw [highH_get]
  exact h _ (by omega)
theorem both_iff {a b : Int → Bool} : both a b = true ↔ ∃ h, hopOK h ∧ a h = true ∧ b h = true := by
  unfold both
  rw [List.any_eq_true]
  constructor
  · rintro ⟨h, h1, h2⟩
    rw [Bool.and_eq_true] at h2
    exact ⟨h, mem7.1 h1, h2⟩
  · rintro ⟨h, h1, h2⟩
    exact ⟨h, mem7.2 h1, by rw [Bool.and_eq_true]; exact h2⟩
/-- What can be wished: hops, one at least. -/
def Wish (f : Int → Bool) : Prop := (∀ h, f h = true → hopOK h) ∧ ∃ h, f h = true
theorem Wish.mix {a b : Int → Bool} (ha : Wish a) (hb : Wish b) : Wish (mix a b) := by
  by_cases h : both a b = true
  · have e : ∀ k, Tb.mix a b k = (a k && b k) := fun k => by unfold Tb.mix; rw [if_pos h]
    refine ⟨fun k hk => ?_, ?_⟩
    · rw [e, Bool.and_eq_true] at hk
      exact ha.1 k hk.1
    · obtain ⟨k, _, h1, h2⟩ := both_iff.1 h
      exact ⟨k, by rw [e, h1, h2]; rfl⟩
  · have e : ∀ k, Tb.mix a b k = (a k || b k) := fun k => by unfold Tb.mix; rw [if_neg h]
    refine ⟨fun k hk => ?_, ?_⟩
    · rw [e, Bool.or_eq_true] at hk
      rcases hk with hk | hk
      · exact ha.1 k hk
      · exact hb.1 k hk
    · obtain ⟨k, hk⟩ := ha.2
      exact ⟨k, by rw [e, hk]; rfl⟩
theorem wsh_wish : ∀ (d : Nat) (p : Pf) (hs : List Int), Fit d p hs → HopsOK hs → Wish (wsh d hs)
  | 0, p, hs, hf, hh => ⟨fun h hk => by
      have e : h = hs.getD 0 0 := by simpa [wsh] using hk
      rw [e]
      exact hh 0 hf.pos, hs.getD 0 0, by simp [wsh]⟩
  | d + 1, p, hs, hf, hh => Wish.mix (wsh_wish d _ _ hf.low hh.low) (wsh_wish d _ _ hf.high hh.high)
theorem mix_same {x : Int} (hx : hopOK x) : mix (fun h => h == x) (fun h => h == x) = fun h => h == x := by
  have hb : both (fun h => h == x) (fun h => h == x) = true := both_iff.2 ⟨x, hx, by simp, by simp⟩
  funext h
  unfold mix
  rw [if_pos hb, Bool.and_self]
theorem wsh_alike : ∀ (d : Nat) (p : Pf) (hs : List Int), Fit d p hs → HopsOK hs → alike hs → (wsh d hs = fun h => h == hs.getD 0 0) ∧ mn d hs = 0
  | 0, _, _, _, _, _ => ⟨rfl, rfl⟩
  | d + 1, p, hs, hf, hh, ha => by
    obtain ⟨h1, h2, h3⟩ := (alike_half hf).1 ha
    obtain ⟨e1, m1⟩ := wsh_alike d _ _ hf.low hh.low h1
    obtain ⟨e2, m2⟩ := wsh_alike d _ _ hf.high hh.high h2
    have e0 : (lowH hs).getD 0 0 = hs.getD 0 0 := by
      have := hf.half
      have := hf.low.pos
      rw [lowH_len] at this
      exact lowH_get this
    rw [← h3, e0] at e2
    rw [e0] at e1
    have hx := hh 0 hf.pos
    refine ⟨?_, ?_⟩
    · show mix (wsh d (lowH hs)) (wsh d (highH hs)) = _
      rw [e1, e2]
      exact mix_same hx
    · show mn d (lowH hs) + mn d (highH hs) + _ = 0
      rw [m1, m2, e1, e2, if_pos (both_iff.2 ⟨hs.getD 0 0, hx, by simp, by simp⟩)]
/-- The least hop that is wished. -/
def fstW (f : Int → Bool) : Int := (hops7.filter f).headD 0
theorem fstW_in {f : Int → Bool} (h : Wish f) : f (fstW f) = true ∧ ∀ k, f k = true → fstW f ≤ k := by
  obtain ⟨k, hk⟩ := h.2
  have hm : k ∈ hops7.filter f := List.mem_filter.2 ⟨mem7.2 (h.1 k hk), hk⟩
  have hp : (hops7.filter f).Pairwise (· < ·) := List.Pairwise.filter f (by unfold hops7; decide)
  unfold fstW
  cases e : hops7.filter f with
  | nil => rw [e] at hm; cases hm
  | cons x r =>
    rw [e] at hp
    have hx : x ∈ hops7.filter f := by rw [e]; exact List.mem_cons_self
    refine ⟨(List.mem_filter.1 hx).2, fun j hj => ?_⟩
    have hj' : j ∈ hops7.filter f := List.mem_filter.2 ⟨mem7.2 (h.1 j hj), hj⟩
    rw [e] at hj'
    rcases List.mem_cons.1 hj' with rfl | hj'
    · exact Int.le_refl _
    · have := (List.pairwise_cons.1 hp).1 j hj'
      show x ≤ j
      omega
def pick (f : Int → Bool) (h : Int) : Int := if f h then h else fstW f
theorem pick_in {f : Int → Bool} (h : Wish f) (k : Int) : f (pick f k) = true := by
  unfold pick
  by_cases e : f k = true
  · rw [if_pos e]; exact e
  · rw [if_neg e]; exact (fstW_in h).1
def made (f : Int → Bool) (p : Pf) (h : Int) : List Rt := if f h then [] else [⟨p, fstW f⟩]
/-- Routes for a part, in which all goes to h, if there is no route. -/
def least : Nat → Pf → List Int → Int → List Rt
  | 0, p, hs, h => made (wsh 0 hs) p h
  | d + 1, p, hs, h => made (wsh (d + 1) hs) p h ++ if alike hs then [] else least d (child p 0) (lowH hs) (pick (wsh (d + 1) hs) h) ++ least d (child p 1) (highH hs) (pick (wsh (d + 1) hs) h)
def no (f : Int → Bool) (h : Int) : Nat := if f h then 0 else 1
theorem made_len (f : Int → Bool) (p : Pf) (h : Int) : (made f p h).length = no f h := by
  unfold made no
  split <;> rfl
theorem no_mix {a b : Int → Bool} (ha : Wish a) (_ : Wish b) (h : Int) : no a h + no b h = (if both a b then 0 else 1) + no (mix a b) h ∨ (if both a b then 0 else 1) + 1 ≤ no a h + no b h := by
  by_cases e : both a b = true
  · have hm : mix a b h = (a h && b h) := by unfold mix; rw [if_pos e]
    unfold no
    rw [if_pos e, hm]
    cases a h <;> cases b h <;> simp
  · have hm : mix a b h = (a h || b h) := by unfold mix; rw [if_neg e]
    have hn : ¬ (a h = true ∧ b h = true) := fun k => e (both_iff.2 ⟨h, ha.1 h k.1, k⟩)
    unfold no
    rw [if_neg e, hm]
    cases h1 : a h <;> cases h2 : b h <;> simp [h1, h2] at hn ⊢
theorem no_pick {a b : Int → Bool} (ha : Wish a) (hb : Wish b) (h : Int) : no a (pick (mix a b) h) + no b (pick (mix a b) h) = if both a b then 0 else 1 := by
  have hp := pick_in (ha.mix hb) h
  generalize pick (mix a b) h = k at *
  by_cases e : both a b = true
  · have hm : mix a b k = (a k && b k) := by unfold mix; rw [if_pos e]
    rw [hm, Bool.and_eq_true] at hp
    unfold no
    rw [if_pos e, hp.1, hp.2]
    rfl
  · have hm : mix a b k = (a k || b k) := by unfold mix; rw [if_neg e]
    have hn : ¬ (a k = true ∧ b k = true) := fun q => e (both_iff.2 ⟨k, ha.1 k q.1, q⟩)
    rw [hm] at hp
    unfold no
    rw [if_neg e]
    cases h1 : a k <;> cases h2 : b k <;> simp [h1, h2] at hn hp ⊢
/-- How many routes. -/
theorem least_len : ∀ (d : Nat) (p : Pf) (hs : List Int) (h : Int), Fit d p hs → HopsOK hs → (least d p hs h).length = mn d hs + no (wsh d hs) h
  | 0, p, hs, h, _, _ => by
    show (made _ p h).length = 0 + _
    rw [made_len, Nat.zero_add]
  | d + 1, p, hs, h, hf, hh => by
    unfold least
    rw [List.length_append, made_len]
    by_cases ha : alike hs
    · rw [if_pos ha, (wsh_alike (d + 1) p hs hf hh ha).2]
      simp
    · rw [if_neg ha, List.length_append, least_len d _ _ _ hf.low hh.low, least_len d _ _ _ hf.high hh.high]
      have := no_pick (wsh_wish d _ _ hf.low hh.low) (wsh_wish d _ _ hf.high hh.high) h
      show _ = mn d (lowH hs) + mn d (highH hs) + _ + _
      rw [← this]
      show _ + (_ + no _ (pick (mix _ _) h) + (_ + no _ (pick (mix _ _) h))) = _
      omega
/-- A part of a prefix. -/
def Inside (q p : Pf) : Prop := Tb.ok q ∧ fst p ≤ fst q ∧ lst q ≤ lst p ∧ p.len ≤ q.len
theorem Inside.self {p : Pf} (h : Tb.ok p) : Inside p p := ⟨h, Int.le_refl _, Int.le_refl _, Int.le_refl _⟩
theorem Inside.trans {a b c : Pf} (h : Inside a b) (k : Inside b c) : Inside a c := by
  obtain ⟨h1, h2, h3, h4⟩ := h
  obtain ⟨_, k2, k3, k4⟩ := k
  exact ⟨h1, by omega, by omega, by omega⟩
theorem inside_child {p : Pf} (h : Tb.ok p) (hl : p.len < 8) : Inside (child p 0) p ∧ Inside (child p 1) p ∧ lst (child p 0) < fst (child p 1) := by
  have c0 := ok_child h hl (b := 0) (by omega) (by omega)
  have c1 := ok_child h hl (b := 1) (by omega) (by omega)
  have s0 := span_child h hl 0
  have s1 := span_child h hl 1
  have f := fst_child h hl
  have l := lst_fst h
  have l0 := lst_fst c0
  have l1 := lst_fst c1
  have p0 := span_pos c0
  have hc : (child p 0).len = p.len + 1 ∧ (child p 1).len = p.len + 1 := ⟨rfl, rfl⟩
  exact ⟨⟨c0, by omega, by omega, by omega⟩, ⟨c1, by omega, by omega, by omega⟩, by omega⟩
/-- What lies in a prefix is it, or lies in a half. -/
theorem inside_split {p q : Pf} (h : Tb.ok p) (hl : p.len < 8) (hq : Inside q p) : q = p ∨ Inside q (child p 0) ∨ Inside q (child p 1) := by
  obtain ⟨h1, h2, h3, h4⟩ := hq
  have c0 := ok_child h hl (b := 0) (by omega) (by omega)
  have c1 := ok_child h hl (b := 1) (by omega) (by omega)
  have s0 := span_child h hl 0
  have s1 := span_child h hl 1
  have hc : (child p 0).len = p.len + 1 ∧ (child p 1).len = p.len + 1 ∧ (child p 0).bits = p.bits * 2 + 0 ∧ (child p 1).bits = p.bits * 2 + 1 := ⟨rfl, rfl, rfl, rfl⟩
  by_cases e : q.len = p.len
  · left
    refine pf_eq e ?_
    rw [fst_ok h, fst_ok h1] at h2
    rw [lst_ok h, lst_ok h1] at h3
    have e3 : span q = span p := by unfold span; rw [e]
    rw [e3] at h2 h3
    rcases ok_cases h with k | k | k | k | k | k | k | k | k <;> (obtain ⟨_, e, _⟩ := k; rw [e] at h2 h3; omega)
  · right
    unfold Inside
    rw [fst_ok c0, lst_ok c0, fst_ok c1, lst_ok c1, fst_ok h1, lst_ok h1, hc.1, hc.2.1, hc.2.2.1, hc.2.2.2]
    rw [fst_ok h, fst_ok h1] at h2
    rw [lst_ok h, lst_ok h1] at h3
    have es : span (child p 0) = span (child p 1) := by omega
    rw [es]
    generalize span (child p 1) = S at *
    generalize span (child p 0) = S0 at *
    clear c0 c1 hc
    have hS : S = span p / 2 := by omega
    clear s0 es s1
    by_cases hh : q.bits * span q < (p.bits * 2 + 1) * S
    · left
      rcases ok_cases h with k | k | k | k | k | k | k | k | k <;> (obtain ⟨l1, e1, _⟩ := k; first | (exfalso; omega) | (rw [e1] at h2 h3 hS; simp only [Int.reduceDiv] at hS; subst hS; rcases ok_cases h1 with k | k | k | k | k | k | k | k | k <;> (obtain ⟨l2, e2, _⟩ := k; first | (exfalso; omega) | (rw [e2] at h2 h3 hh ⊢; exact ⟨h1, by omega, by omega, by omega⟩))))
    · right
      rcases ok_cases h with k | k | k | k | k | k | k | k | k <;> (obtain ⟨l1, e1, _⟩ := k; first | (exfalso; omega) | (rw [e1] at h2 h3 hS; simp only [Int.reduceDiv] at hS; subst hS; rcases ok_cases h1 with k | k | k | k | k | k | k | k | k <;> (obtain ⟨l2, e2, _⟩ := k; first | (exfalso; omega) | (rw [e2] at h2 h3 hh ⊢; exact ⟨h1, by omega, by omega, by omega⟩))))
end Go.Proofs.YteedndapbfihaaaGreat.Tb
/- By the table of as few routes as can be all addresses go as they did; no table has fewer; no route of it can be spared; no program. -/
namespace Go.Proofs.YteedndapbfihaaaGreat.Tb

theorem made_mem {f : Int → Bool} {p : Pf} {h : Int} {r : Rt} (hr : r ∈ made f p h) : r = ⟨p, fstW f⟩ := by
  unfold made at hr
  split at hr
  · cases hr
  · simpa using hr
theorem least_in : ∀ (d : Nat) (p : Pf) (hs : List Int) (h : Int), Fit d p hs → HopsOK hs → ∀ r ∈ least d p hs h, Inside r.p p ∧ hopOK r.hop
  | 0, p, hs, h, hf, hh, r, hr => by
    rw [made_mem (show r ∈ made _ p h from hr)]
    have hw := wsh_wish 0 p hs hf hh
    exact ⟨Inside.self hf.1, hw.1 _ (fstW_in hw).1⟩
  | d + 1, p, hs, h, hf, hh, r, hr => by
    unfold least at hr
    rcases List.mem_append.1 hr with hr | hr
    · rw [made_mem hr]
      have hw := wsh_wish (d + 1) p hs hf hh
      exact ⟨Inside.self hf.1, hw.1 _ (fstW_in hw).1⟩
    · split at hr
      · cases hr
      · obtain ⟨i0, i1, _⟩ := inside_child hf.1 hf.lt
        rcases List.mem_append.1 hr with hr | hr
        · obtain ⟨a, b⟩ := least_in d _ _ _ hf.low hh.low r hr
          exact ⟨a.trans i0, b⟩
        · obtain ⟨a, b⟩ := least_in d _ _ _ hf.high hh.high r hr
          exact ⟨a.trans i1, b⟩
theorem inside_less {p q : Pf} (_ : Tb.ok p) (hl : p.len < 8) (hq : Inside q (child p 0) ∨ Inside q (child p 1)) (h0 : Tb.ok p) : less p q := by
  obtain ⟨i0, i1, _⟩ := inside_child h0 hl
  unfold less
  rcases hq with hq | hq
  · have := hq.2.1; have := hq.2.2.2; have := i0.2.1; have := i0.2.2.2
    have : (child p 0).len = p.len + 1 := rfl
    omega
  · have := hq.2.1; have := hq.2.2.2; have := i1.2.1; have := i1.2.2.2
    have : (child p 1).len = p.len + 1 := rfl
    omega
theorem sides_less {p q r : Pf} (h : Tb.ok p) (hl : p.len < 8) (hq : Inside q (child p 0)) (hr : Inside r (child p 1)) : less q r := by
  obtain ⟨_, _, h3⟩ := inside_child h hl
  have := hq.2.2.1; have := hr.2.1; have := (fst_le hq.1).1
  exact .inl (by omega)
theorem least_pair : ∀ (d : Nat) (p : Pf) (hs : List Int) (h : Int), Fit d p hs → HopsOK hs → (least d p hs h).Pairwise (fun r s => less r.p s.p)
  | 0, p, hs, h, hf, hh => by
    show (made _ p h).Pairwise _
    unfold made
    split
    · exact List.Pairwise.nil
    · simp
  | d + 1, p, hs, h, hf, hh => by
    unfold least
    have hm : (made (wsh (d + 1) hs) p h).Pairwise (fun r s => less r.p s.p) := by
      unfold made
      split
      · exact List.Pairwise.nil
      · simp
    by_cases ha : alike hs
    · rw [if_pos ha, List.append_nil]
      exact hm
    · rw [if_neg ha]
      rw [List.pairwise_append, List.pairwise_append]
      refine ⟨hm, ⟨least_pair d _ _ _ hf.low hh.low, least_pair d _ _ _ hf.high hh.high, ?_⟩, ?_⟩
      · intro a ha' b hb
        exact sides_less hf.1 hf.lt (least_in d _ _ _ hf.low hh.low a ha').1 (least_in d _ _ _ hf.high hh.high b hb).1
      · intro a ha' b hb
        rw [made_mem ha']
        rcases List.mem_append.1 hb with hb | hb
        · exact inside_less hf.1 hf.lt (.inl (least_in d _ _ _ hf.low hh.low b hb).1) hf.1
        · exact inside_less hf.1 hf.lt (.inr (least_in d _ _ _ hf.high hh.high b hb).1) hf.1
theorem least_wf {hs : List Int} (hf : Fit 8 ⟨0, 0⟩ hs) (hh : HopsOK hs) (h : Int) : Wf (least 8 ⟨0, 0⟩ hs h) :=
  ⟨fun r hr => ⟨(least_in 8 _ _ h hf hh r hr).1.1, (least_in 8 _ _ h hf hh r hr).2⟩, least_pair 8 _ _ h hf hh⟩
theorem inside_has {q p : Pf} {a : Int} (h : Inside q p) (ha : has q a) (hp : Tb.ok p) : has p a := ⟨hp, by have := h.2.1; have := ha.2; omega, by have := h.2.2.1; have := ha.2; omega⟩
/-- A half has an address, or the other one. -/
theorem half_has {p : Pf} {a : Int} (h : has p a) (hl : p.len < 8) : (has (child p 0) a ∧ ¬ has (child p 1) a) ∨ (has (child p 1) a ∧ ¬ has (child p 0) a) := by
  have hp := h.1
  have c0 := ok_child hp hl (b := 0) (by omega) (by omega)
  have c1 := ok_child hp hl (b := 1) (by omega) (by omega)
  have s0 := span_child hp hl 0
  have s1 := span_child hp hl 1
  have f := fst_child hp hl
  have l := lst_fst hp
  have l0 := lst_fst c0
  have l1 := lst_fst c1
  have h2 := h.2
  by_cases c : a < fst (child p 1)
  · exact .inl ⟨⟨c0, by omega, by omega⟩, fun k => by have := k.2; omega⟩
  · exact .inr ⟨⟨c1, by omega, by omega⟩, fun k => by have := k.2; omega⟩
theorem Fit.get_low {d : Nat} {p : Pf} {hs : List Int} (hf : Fit (d + 1) p hs) {a : Int} (ha : has (child p 0) a) : (lowH hs).getD (a - fst (child p 0)).toNat 0 = hs.getD (a - fst p).toNat 0 := by
  obtain ⟨h1, h2, h3⟩ := hf.half
  have f := fst_child hf.1 hf.lt
  have l0 := lst_fst ha.1
  have h4 := ha.2
  rw [f.1]
  exact lowH_get (by omega)
theorem Fit.get_high {d : Nat} {p : Pf} {hs : List Int} (hf : Fit (d + 1) p hs) {a : Int} (ha : has (child p 1) a) : (highH hs).getD (a - fst (child p 1)).toNat 0 = hs.getD (a - fst p).toNat 0 := by
  obtain ⟨h1, h2, h3⟩ := hf.half
  have f := fst_child hf.1 hf.lt
  have l0 := lst_fst ha.1
  have h4 := ha.2
  rw [highH_get, f.2]
  congr 1
  omega
theorem Fit.at_lt {d : Nat} {p : Pf} {hs : List Int} (hf : Fit d p hs) {a : Int} (ha : has p a) : (a - fst p).toNat < hs.length := by
  have := hf.2.2
  have := lst_fst ha.1
  have := ha.2
  omega
theorem fold_made {f : Int → Bool} {p : Pf} {h a : Int} (ha : has p a) : (made f p h).foldl (lookF a) h = pick f h := by
  unfold made pick
  split
  · rfl
  · show lookF a h ⟨p, fstW f⟩ = _
    unfold lookF
    rw [if_pos ha]
/-- All go as they did. -/
theorem least_fold : ∀ (d : Nat) (p : Pf) (hs : List Int) (h : Int), Fit d p hs → HopsOK hs → ∀ a, has p a → (least d p hs h).foldl (lookF a) h = hs.getD (a - fst p).toNat 0
  | 0, p, hs, h, hf, hh, a, ha => by
    show (made (wsh 0 hs) p h).foldl (lookF a) h = _
    rw [fold_made ha]
    have e := pick_in (wsh_wish 0 p hs hf hh) h
    have e : pick (wsh 0 hs) h = hs.getD 0 0 := by simpa [wsh] using e
    rw [e]
    have h1 : (hs.length : Int) = 1 := by
      rw [hf.2.2]
      have := hf.2.1
      unfold span
      rw [show (8 - p.len).toNat = 0 from by omega]
      rfl
    have := hf.at_lt ha
    rw [show (a - fst p).toNat = 0 from by omega]
  | d + 1, p, hs, h, hf, hh, a, ha => by
    unfold least
    rw [List.foldl_append, fold_made ha]
    by_cases hal : alike hs
    · rw [if_pos hal]
      have e := pick_in (wsh_wish (d + 1) p hs hf hh) h
      rw [(wsh_alike (d + 1) p hs hf hh hal).1] at e ⊢
      have e : pick (fun h => h == hs.getD 0 0) h = hs.getD 0 0 := beq_iff_eq.1 e
      show pick _ h = _
      rw [e]
      exact (hal _ (hf.at_lt ha)).symm
    · rw [if_neg hal, List.foldl_append]
      generalize pick (wsh (d + 1) hs) h = k
      rcases half_has ha hf.lt with ⟨h1, h2⟩ | ⟨h1, h2⟩
      · rw [least_fold d _ _ k hf.low hh.low a h1, hf.get_low h1]
        exact look_keep _ _ (fun r hr hra => h2 (inside_has (least_in d _ _ _ hf.high hh.high r hr).1 hra hf.high.1))
      · rw [look_keep _ _ (fun r hr hra => h2 (inside_has (least_in d _ _ _ hf.low hh.low r hr).1 hra hf.low.1)), least_fold d _ _ k hf.high hh.high a h1, hf.get_high h1]
/-- Routes within a prefix: it itself, those of one half, those of the other one. -/
theorem part_split {p : Pf} (hp : Tb.ok p) (hl : p.len < 8) : ∀ L : List Rt, (∀ r ∈ L, Inside r.p p) → L.Pairwise (fun r s => less r.p s.p) →
    ∃ M A B, L = M ++ (A ++ B) ∧ (M = [] ∨ ∃ h, M = [⟨p, h⟩]) ∧ (∀ r ∈ A, Inside r.p (child p 0)) ∧ (∀ r ∈ B, Inside r.p (child p 1))
  | [], _, _ => ⟨[], [], [], rfl, .inl rfl, fun r hr => (by cases hr), fun r hr => (by cases hr)⟩
  | r :: L, hi, hpw => by
    obtain ⟨k1, k2⟩ := List.pairwise_cons.1 hpw
    obtain ⟨M, A, B, e, hM, hA, hB⟩ := part_split hp hl L (fun s hs => hi s (List.mem_cons_of_mem _ hs)) k2
    have hr := hi r (List.mem_cons_self ..)
    have hM0 : M = [] := by
      rcases hM with h | ⟨h, h'⟩
      · exact h
      · exfalso
        have hm : (⟨p, h⟩ : Rt) ∈ L := by rw [e, h']; simp
        have hl2 := k1 _ hm
        unfold less at hl2
        have := hr.2.1
        have := hr.2.2.2
        dsimp only at hl2
        omega
    subst hM0
    rw [List.nil_append] at e
    rcases inside_split hp hl hr with h | h | h
    · refine ⟨[r], A, B, by rw [e]; rfl, .inr ⟨r.hop, ?_⟩, hA, hB⟩
      cases r
      cases h
      rfl
    · refine ⟨[], r :: A, B, by rw [e]; rfl, .inl rfl, fun s hs => ?_, hB⟩
      rcases List.mem_cons.1 hs with rfl | hs
      · exact h
      · exact hA s hs
    · have hA0 : A = [] := by
        cases A with
        | nil => rfl
        | cons s A =>
          exfalso
          have h1 := k1 s (by rw [e]; simp)
          exact less_asymm h1 (sides_less hp hl (hA s (List.mem_cons_self ..)) h)
      subst hA0
      refine ⟨[], [], r :: B, by rw [e]; rfl, .inl rfl, fun s hs => (by cases hs), fun s hs => ?_⟩
      rcases List.mem_cons.1 hs with rfl | hs
      · exact h
      · exact hB s hs
theorem no_le (f : Int → Bool) (h : Int) : no f h ≤ 1 := by unfold no; split <;> omega
/-- No routes by which all goes so are fewer. -/
theorem least_few : ∀ (d : Nat) (p : Pf) (hs : List Int) (h : Int) (L : List Rt), Fit d p hs → HopsOK hs → (∀ r ∈ L, Inside r.p p) → L.Pairwise (fun r s => less r.p s.p) →
    (∀ a, has p a → L.foldl (lookF a) h = hs.getD (a - fst p).toNat 0) → mn d hs + no (wsh d hs) h ≤ L.length
  | 0, p, hs, h, L, hf, hh, hi, hpw, hg => by
    show 0 + _ ≤ _
    cases L with
    | nil =>
      have e := hg (fst p) (has_first hf.1)
      rw [Int.sub_self] at e
      have e : h = hs.getD 0 0 := e
      have : wsh 0 hs h = true := by simp only [wsh]; rw [e]; simp
      unfold no
      rw [if_pos this]
      simp
    | cons r L =>
      have := no_le (wsh 0 hs) h
      rw [List.length_cons]
      omega
  | d + 1, p, hs, h, L, hf, hh, hi, hpw, hg => by
    obtain ⟨M, A, B, rfl, hM, hA, hB⟩ := part_split hf.1 hf.lt L hi hpw
    obtain ⟨_, p2, _⟩ := List.pairwise_append.1 hpw
    obtain ⟨pA, pB, _⟩ := List.pairwise_append.1 p2
    obtain ⟨i0, i1, _⟩ := inside_child hf.1 hf.lt
    obtain ⟨k, hk, hk2⟩ : ∃ k, (∀ a, has p a → M.foldl (lookF a) h = k) ∧ (M.length = 0 ∧ k = h ∨ M.length = 1) := by
      rcases hM with rfl | ⟨x, rfl⟩
      · exact ⟨h, fun _ _ => rfl, .inl ⟨rfl, rfl⟩⟩
      · refine ⟨x, fun a ha => ?_, .inr rfl⟩
        show lookF a h ⟨p, x⟩ = x
        unfold lookF
        rw [if_pos ha]
    have gA : mn d (lowH hs) + no (wsh d (lowH hs)) k ≤ A.length := least_few d _ _ k A hf.low hh.low hA pA (fun a ha => by
      have hpa := inside_has i0 ha hf.1
      have h1 := hg a hpa
      rw [List.foldl_append, List.foldl_append, hk a hpa] at h1
      rw [hf.get_low ha, ← h1]
      refine (look_keep B _ (fun r hr hra => ?_)).symm
      rcases half_has hpa hf.lt with ⟨_, q⟩ | ⟨_, q⟩
      · exact q (inside_has (hB r hr) hra hf.high.1)
      · exact q ha)
    have gB : mn d (highH hs) + no (wsh d (highH hs)) k ≤ B.length := least_few d _ _ k B hf.high hh.high hB pB (fun a ha => by
      have hpa := inside_has i1 ha hf.1
      have h1 := hg a hpa
      rw [List.foldl_append, List.foldl_append, hk a hpa] at h1
      rw [hf.get_high ha, ← h1]
      rw [look_keep A _ (fun r hr hra => ?_)]
      rcases half_has hpa hf.lt with ⟨_, q⟩ | ⟨_, q⟩
      · exact q ha
      · exact q (inside_has (hA r hr) hra hf.low.1))
    have hn := no_mix (wsh_wish d _ _ hf.low hh.low) (wsh_wish d _ _ hf.high hh.high) k
    have n1 := no_le (wsh (d + 1) hs) h
    have n2 := no_le (wsh (d + 1) hs) k
    rw [List.length_append, List.length_append]
    show mn d (lowH hs) + mn d (highH hs) + (if both (wsh d (lowH hs)) (wsh d (highH hs)) then 0 else 1) + _ ≤ _
    have e : mix (wsh d (lowH hs)) (wsh d (highH hs)) = wsh (d + 1) hs := rfl
    rw [e] at hn
    generalize (if both (wsh d (lowH hs)) (wsh d (highH hs)) then 0 else 1) = x at *
    rcases hk2 with ⟨q1, rfl⟩ | q1
    · omega
    · omega
theorem allOf_hops {L : List Rt} (hw : Wf L) : HopsOK (allOf L) := fun k hk => by
  rw [allOf_len] at hk
  unfold allOf
  rw [List.getD_eq_getElem?_getD, List.getElem?_map, List.getElem?_range hk]
  exact look_hopOK hw _
theorem fit_allOf (L : List Rt) : Fit 8 ⟨0, 0⟩ (allOf L) := ⟨by decide, by decide, by rw [allOf_len]; decide⟩
theorem allOf_at (L : List Rt) {n : Nat} (h : n < 256) : (allOf L).getD n 0 = look L n := by
  unfold allOf
  rw [List.getD_eq_getElem?_getD, List.getElem?_map, List.getElem?_range h]
  rfl
/-- The table of as few as can be. -/
def few (L : List Rt) : List Rt := least 8 ⟨0, 0⟩ (allOf L) (-1)
theorem few_wf {L : List Rt} (hw : Wf L) : Wf (few L) := least_wf (fit_allOf L) (allOf_hops hw) _
theorem has_all {n : Nat} (h : n < 256) : has ⟨0, 0⟩ (n : Int) := by
  refine ⟨by decide, ?_, ?_⟩
  · rw [fst00']; omega
  · have := lst00'; omega
theorem few_all {L : List Rt} (hw : Wf L) : allOf (few L) = allOf L := by
  refine allOf_ext (fun n hn => ?_)
  have h := least_fold 8 _ _ (-1) (fit_allOf L) (allOf_hops hw) n (has_all hn)
  rw [fst00', Int.sub_zero, Int.toNat_natCast, allOf_at L hn] at h
  exact h
theorem few_len {L : List Rt} (hw : Wf L) : (few L).length = mn 8 (allOf L) + no (wsh 8 (allOf L)) (-1) := least_len 8 _ _ _ (fit_allOf L) (allOf_hops hw)
theorem inside_all {p : Pf} (h : Tb.ok p) : Inside p ⟨0, 0⟩ := by
  have := fst_ge h
  have := fst_le h
  have := lst00'
  refine ⟨h, by rw [fst00']; omega, by omega, h.1⟩
theorem few_fewest {L M : List Rt} (hw : Wf L) (hm : Wf M) (h : allOf M = allOf L) : (few L).length ≤ M.length := by
  rw [few_len hw]
  refine least_few 8 ⟨0, 0⟩ (allOf L) (-1) M (fit_allOf L) (allOf_hops hw) (fun r hr => inside_all (hm.1 r hr).1) hm.2 (fun a ha => ?_)
  have hr := has_range ha
  obtain ⟨n, rfl⟩ := Int.eq_ofNat_of_zero_le hr.1
  have hn : n < 256 := by omega
  rw [fst00', Int.sub_zero, Int.toNat_natCast, ← h, allOf_at M hn]
  rfl
/-- Leaves are more than routes. -/
theorem mn_lv : ∀ (d : Nat) (p : Pf) (hs : List Int), Fit d p hs → HopsOK hs → mn d hs + 1 ≤ (lv d p hs).length
  | 0, p, hs, _, _ => by simp [mn, lv]
  | d + 1, p, hs, hf, hh => by
    unfold lv
    by_cases ha : alike hs
    · rw [if_pos ha, (wsh_alike (d + 1) p hs hf hh ha).2]
      simp
    · rw [if_neg ha, List.length_append]
      have h0 := mn_lv d _ _ hf.low hh.low
      have h1 := mn_lv d _ _ hf.high hh.high
      show mn d (lowH hs) + mn d (highH hs) + _ + 1 ≤ _
      split <;> omega
end Go.Proofs.YteedndapbfihaaaGreat.Tb
