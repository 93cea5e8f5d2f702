/- Tries of where all addresses go; no program. -/
import Derived.Test.YtdkkeaegmmepfaaTbMath
namespace Go.Proofs.Ytdkkeaegmmepfaa.Tb

inductive Tr where
  | leaf (p : Pf) (hop : Int)
  | node (p : Pf) (low high : Tr)
def Tr.root : Tr → Pf
  | .leaf p _ => p
  | .node p _ _ => p
def Tr.isLeaf : Tr → Bool
  | .leaf _ _ => true
  | .node _ _ _ => false
def Tr.hop0 : Tr → Int
  | .leaf _ h => h
  | .node _ _ _ => 0
def child (p : Pf) (bit : Int) : Pf := ⟨p.len + 1, p.bits * 2 + bit⟩
def join (p : Pf) (a b : Tr) : Tr := if a.isLeaf = true ∧ b.isLeaf = true ∧ a.hop0 = b.hop0 then .leaf p a.hop0 else .node p a b
def lowH (hs : List Int) : List Int := hs.take (hs.length / 2)
def highH (hs : List Int) : List Int := hs.drop (hs.length / 2)
def mkT : Nat → Pf → List Int → Tr
  | 0, p, hs => .leaf p (hs.getD 0 0)
  | d + 1, p, hs => join p (mkT d (child p 0) (lowH hs)) (mkT d (child p 1) (highH hs))
def leaves : Tr → List Rt
  | .leaf p h => [⟨p, h⟩]
  | .node _ l h => leaves l ++ leaves h
def alike (hs : List Int) : Prop := ∀ k, k < hs.length → hs.getD k 0 = hs.getD 0 0
instance (hs : List Int) : Decidable (alike hs) := by unfold alike; infer_instance
def lv : Nat → Pf → List Int → List Rt
  | 0, p, hs => [⟨p, hs.getD 0 0⟩]
  | d + 1, p, hs => if alike hs then [⟨p, hs.getD 0 0⟩] else lv d (child p 0) (lowH hs) ++ lv d (child p 1) (highH hs)
def lookT : Tr → Int → Int
  | .leaf _ h, _ => h
  | .node _ l h, a => if has l.root a then lookT l a else lookT h a

/-- A prefix, and where its addresses go. -/
def Fit (d : Nat) (p : Pf) (hs : List Int) : Prop := Tb.ok p ∧ p.len + d = 8 ∧ (hs.length : Int) = span p
theorem span_child {p : Pf} (_ : Tb.ok p) (hl : p.len < 8) (b : Int) : span p = span (child p b) * 2 := by
  unfold span child
  dsimp only
  rw [show (8 - p.len).toNat = (8 - (p.len + 1)).toNat + 1 from by omega, Int.pow_succ]
theorem ok_child {p : Pf} (h : Tb.ok p) (hl : p.len < 8) {b : Int} (h0 : 0 ≤ b) (h1 : b ≤ 1) : Tb.ok (child p b) := by
  obtain ⟨a1, a2, a3, a4⟩ := h
  refine ⟨by show 0 ≤ p.len + 1; omega, by show p.len + 1 ≤ 8; omega, by show 0 ≤ p.bits * 2 + b; omega, ?_⟩
  show p.bits * 2 + b < 2 ^ (p.len + 1).toNat
  rw [show (p.len + 1).toNat = p.len.toNat + 1 from by omega, Int.pow_succ]
  generalize (2 : Int) ^ p.len.toNat = X at *
  omega
theorem span_pos {p : Pf} (h : Tb.ok p) : 1 ≤ span p := by
  rcases ok_cases h with h | h | h | h | h | h | h | h | h <;> (obtain ⟨_, e, _⟩ := h; rw [e]; omega)
theorem fst_child {p : Pf} (h : Tb.ok p) (hl : p.len < 8) : fst (child p 0) = fst p ∧ fst (child p 1) = fst p + span (child p 1) := by
  rw [fst_ok h, fst_ok (ok_child h hl (by omega) (by omega)), fst_ok (ok_child h hl (by omega) (by omega))]
  have e0 := span_child h hl 0
  have e1 := span_child h hl 1
  generalize hs0 : span (child p 0) = s0 at *
  generalize hs1 : span (child p 1) = s1 at *
  have e : s0 = s1 := by omega
  subst e
  rw [e0]
  show (p.bits * 2 + 0) * s0 = p.bits * (s0 * 2) ∧ (p.bits * 2 + 1) * s0 = p.bits * (s0 * 2) + s0
  rw [Int.add_zero, Int.add_mul, Int.one_mul, Int.mul_assoc, Int.mul_comm 2 s0]
  exact ⟨rfl, rfl⟩
theorem lst_fst {p : Pf} (h : Tb.ok p) : lst p = fst p + span p - 1 := by rw [lst_ok h, fst_ok h]
theorem Fit.lt {d : Nat} {p : Pf} {hs : List Int} (h : Fit (d + 1) p hs) : p.len < 8 := by have := h.2.1; omega
theorem Fit.half {d : Nat} {p : Pf} {hs : List Int} (h : Fit (d + 1) p hs) : ((hs.length / 2 : Nat) : Int) = span (child p 0) ∧ span (child p 0) = span (child p 1) ∧ hs.length = hs.length / 2 + hs.length / 2 := by
  have e0 := span_child h.1 h.lt 0
  have e1 := span_child h.1 h.lt 1
  have := h.2.2
  omega
theorem lowH_len (hs : List Int) : (lowH hs).length = hs.length / 2 := by unfold lowH; rw [List.length_take]; omega
theorem highH_len (hs : List Int) : (highH hs).length = hs.length - hs.length / 2 := by unfold highH; rw [List.length_drop]
theorem lowH_get {hs : List Int} {k : Nat} (h : k < hs.length / 2) : (lowH hs).getD k 0 = hs.getD k 0 := by
  unfold lowH
  rw [List.getD_eq_getElem?_getD, List.getElem?_take, if_pos h, ← List.getD_eq_getElem?_getD]
theorem highH_get (hs : List Int) (k : Nat) : (highH hs).getD k 0 = hs.getD (hs.length / 2 + k) 0 := by
  unfold highH
  rw [List.getD_eq_getElem?_getD, List.getElem?_drop, ← List.getD_eq_getElem?_getD]
theorem Fit.low {d : Nat} {p : Pf} {hs : List Int} (h : Fit (d + 1) p hs) : Fit d (child p 0) (lowH hs) :=
  ⟨ok_child h.1 h.lt (by omega) (by omega), by show p.len + 1 + d = 8; have := h.2.1; omega, by rw [lowH_len]; exact h.half.1⟩
theorem Fit.high {d : Nat} {p : Pf} {hs : List Int} (h : Fit (d + 1) p hs) : Fit d (child p 1) (highH hs) :=
  ⟨ok_child h.1 h.lt (by omega) (by omega), by show p.len + 1 + d = 8; have := h.2.1; omega, by rw [highH_len]; have := h.half; omega⟩
theorem Fit.pos {d : Nat} {p : Pf} {hs : List Int} (h : Fit d p hs) : 0 < hs.length := by have := span_pos h.1; have := h.2.2; omega
theorem mkT_root : ∀ (d : Nat) (p : Pf) (hs : List Int), (mkT d p hs).root = p
  | 0, _, _ => rfl
  | d + 1, p, hs => by
    unfold mkT join
    split <;> rfl
theorem alike_half {d : Nat} {p : Pf} {hs : List Int} (h : Fit (d + 1) p hs) : alike hs ↔ alike (lowH hs) ∧ alike (highH hs) ∧ (lowH hs).getD 0 0 = (highH hs).getD 0 0 := by
  have hp := h.low.pos
  have hq := h.high.pos
  have hh := h.half.2.2
  rw [lowH_len] at hp
  constructor
  · intro ha
    refine ⟨fun k hk => ?_, fun k hk => ?_, ?_⟩
    · rw [lowH_len] at hk
      rw [lowH_get hk, lowH_get hp]
      exact ha k (by omega)
    · rw [highH_len] at hk
      rw [highH_get, highH_get]
      exact (ha _ (by omega)).trans (ha _ (by omega)).symm
    · rw [lowH_get hp, highH_get]
      exact (ha _ (by omega)).trans (ha _ (by omega)).symm
  · rintro ⟨h1, h2, h3⟩ k hk
    rw [lowH_get hp] at h3
    by_cases c : k < hs.length / 2
    · have := h1 k (by rw [lowH_len]; exact c)
      rwa [lowH_get c, lowH_get hp] at this
    · have := h2 (k - hs.length / 2) (by rw [highH_len]; omega)
      rw [← h3, highH_get, show hs.length / 2 + (k - hs.length / 2) = k from by omega] at this
      exact this
theorem mkT_alike : ∀ (d : Nat) (p : Pf) (hs : List Int), Fit d p hs → ((mkT d p hs).isLeaf = true ↔ alike hs) ∧ (alike hs → mkT d p hs = .leaf p (hs.getD 0 0))
  | 0, p, hs, h => by
    refine ⟨⟨fun _ k hk => ?_, fun _ => rfl⟩, fun _ => rfl⟩
    have h1 := h.2.2
    have h2 := h.2.1
    have : span p = 1 := by
      rcases ok_cases h.1 with h | h | h | h | h | h | h | h | h <;> (obtain ⟨e, e2, _⟩ := h; omega)
    have : k = 0 := by omega
    rw [this]
  | d + 1, p, hs, h => by
    obtain ⟨l1, l2⟩ := mkT_alike d (child p 0) (lowH hs) h.low
    obtain ⟨r1, r2⟩ := mkT_alike d (child p 1) (highH hs) h.high
    have ha := alike_half h
    have hl0 : (lowH hs).getD 0 0 = hs.getD 0 0 := lowH_get (by have := h.low.pos; rwa [lowH_len] at this)
    by_cases k : alike hs
    · obtain ⟨k1, k2, k3⟩ := ha.1 k
      have e : mkT (d + 1) p hs = .leaf p (hs.getD 0 0) := by
        show join p (mkT d (child p 0) (lowH hs)) (mkT d (child p 1) (highH hs)) = _
        rw [l2 k1, r2 k2]
        unfold join
        rw [if_pos ⟨rfl, rfl, k3⟩]
        show Tr.leaf p ((lowH hs).getD 0 0) = _
        rw [hl0]
      rw [e]
      exact ⟨⟨fun _ => k, fun _ => rfl⟩, fun _ => rfl⟩
    · have e : mkT (d + 1) p hs = .node p (mkT d (child p 0) (lowH hs)) (mkT d (child p 1) (highH hs)) := by
        show join p (mkT d (child p 0) (lowH hs)) (mkT d (child p 1) (highH hs)) = _
        unfold join
        rw [if_neg]
        rintro ⟨h1, h2, h3⟩
        refine k (ha.2 ⟨l1.1 h1, r1.1 h2, ?_⟩)
        rw [l2 (l1.1 h1), r2 (r1.1 h2)] at h3
        exact h3
      rw [e]
      exact ⟨⟨fun h => (by cases h), fun h => absurd h k⟩, fun h => absurd h k⟩
theorem mkT_node {d : Nat} {p : Pf} {hs : List Int} (h : Fit (d + 1) p hs) (k : ¬ alike hs) : mkT (d + 1) p hs = .node p (mkT d (child p 0) (lowH hs)) (mkT d (child p 1) (highH hs)) := by
  have hn : (mkT (d + 1) p hs).isLeaf ≠ true := fun e => k ((mkT_alike (d + 1) p hs h).1.1 e)
  revert hn
  show (join p (mkT d (child p 0) (lowH hs)) (mkT d (child p 1) (highH hs))).isLeaf ≠ true → join p (mkT d (child p 0) (lowH hs)) (mkT d (child p 1) (highH hs)) = _
  unfold join
  split
  · intro h; exact absurd rfl h
  · intro _; rfl
theorem mkT_leaves : ∀ (d : Nat) (p : Pf) (hs : List Int), Fit d p hs → leaves (mkT d p hs) = lv d p hs
  | 0, _, _, _ => rfl
  | d + 1, p, hs, h => by
    unfold lv
    by_cases k : alike hs
    · rw [if_pos k, (mkT_alike (d + 1) p hs h).2 k]; rfl
    · rw [if_neg k, mkT_node h k]
      show leaves _ ++ leaves _ = _
      rw [mkT_leaves d _ _ h.low, mkT_leaves d _ _ h.high]
theorem has_in {p : Pf} (h : Tb.ok p) (a : Int) : has p a ↔ fst p ≤ a ∧ a < fst p + span p := by
  unfold has
  rw [lst_fst h]
  constructor
  · intro k; omega
  · intro k; exact ⟨h, by omega, by omega⟩
theorem mkT_look : ∀ (d : Nat) (p : Pf) (hs : List Int), Fit d p hs → ∀ a, has p a → lookT (mkT d p hs) a = hs.getD (a - fst p).toNat 0
  | d, p, hs, h, a, ha => by
    by_cases k : alike hs
    · rw [(mkT_alike d p hs h).2 k]
      show hs.getD 0 0 = _
      have := (has_in h.1 a).1 ha
      have := h.2.2
      exact (k _ (by omega)).symm
    · cases d with
      | zero => exact absurd ((mkT_alike 0 p hs h).1.1 rfl) k
      | succ d =>
        rw [mkT_node h k]
        show (if has (mkT d (child p 0) (lowH hs)).root a then _ else _) = _
        rw [mkT_root]
        obtain ⟨e0, e1⟩ := fst_child h.1 h.lt
        have hh := h.half
        have hin := (has_in h.1 a).1 ha
        have hsp := span_child h.1 h.lt 0
        by_cases c : has (child p 0) a
        · rw [if_pos c, mkT_look d _ _ h.low a c, e0]
          have c' := (has_in h.low.1 a).1 c
          rw [lowH_get (by omega)]
        · rw [if_neg c]
          have c1 : ¬ (fst (child p 0) ≤ a ∧ a < fst (child p 0) + span (child p 0)) := fun e => c ((has_in h.low.1 a).2 e)
          have c2 : has (child p 1) a := (has_in h.high.1 a).2 (by omega)
          rw [mkT_look d _ _ h.high a c2, highH_get, e1]
          congr 1
          omega

/-- Routes side by side, from an address to an address. -/
def Chain : Int → List Rt → Int → Prop
  | s, [], e => s = e
  | s, r :: L, e => Tb.ok r.p ∧ fst r.p = s ∧ Chain (lst r.p + 1) L e
theorem Chain.app : ∀ {A B : List Rt} {s m e : Int}, Chain s A m → Chain m B e → Chain s (A ++ B) e
  | [], _, _, _, _, h, k => by
    have h : _ = _ := h
    rw [h]; exact k
  | _ :: _, _, _, _, _, h, k => ⟨h.1, h.2.1, Chain.app h.2.2 k⟩
theorem lv_chain : ∀ (d : Nat) (p : Pf) (hs : List Int), Fit d p hs → Chain (fst p) (lv d p hs) (lst p + 1)
  | 0, _, _, h => ⟨h.1, rfl, rfl⟩
  | d + 1, p, hs, h => by
    unfold lv
    by_cases k : alike hs
    · rw [if_pos k]; exact ⟨h.1, rfl, rfl⟩
    · rw [if_neg k]
      obtain ⟨e0, e1⟩ := fst_child h.1 h.lt
      have hh := h.half
      have hsp := span_child h.1 h.lt 0
      have c0 := lv_chain d _ _ h.low
      have c1 := lv_chain d _ _ h.high
      rw [e0, lst_fst h.low.1, e0] at c0
      rw [e1, lst_fst h.high.1, e1] at c1
      rw [lst_fst h.1]
      refine c0.app ?_
      rw [show fst p + span (child p 0) - 1 + 1 = fst p + span (child p 1) from by omega, show fst p + span p - 1 + 1 = fst p + span (child p 1) + span (child p 1) - 1 + 1 from by omega]
      exact c1
theorem lv_hop : ∀ (d : Nat) (p : Pf) (hs : List Int), Fit d p hs → ∀ r ∈ lv d p hs, ∀ a, has r.p a → has p a ∧ r.hop = hs.getD (a - fst p).toNat 0
  | d, p, hs, h, r, hr, a, ha => by
    by_cases k : alike hs
    · have e : lv d p hs = [⟨p, hs.getD 0 0⟩] := by
        cases d with
        | zero => rfl
        | succ d => unfold lv; rw [if_pos k]
      rw [e, List.mem_singleton] at hr
      subst hr
      refine ⟨ha, ?_⟩
      have := (has_in h.1 a).1 ha
      have := h.2.2
      exact (k _ (by omega)).symm
    · cases d with
      | zero => exact absurd ((mkT_alike 0 p hs h).1.1 rfl) k
      | succ d =>
        unfold lv at hr
        rw [if_neg k] at hr
        obtain ⟨e0, e1⟩ := fst_child h.1 h.lt
        have hh := h.half
        have hsp := span_child h.1 h.lt 0
        rcases List.mem_append.1 hr with hr | hr
        · obtain ⟨c, e⟩ := lv_hop d _ _ h.low r hr a ha
          have c' := (has_in h.low.1 a).1 c
          refine ⟨(has_in h.1 a).2 (by omega), ?_⟩
          rw [e, lowH_get (by omega), e0]
        · obtain ⟨c, e⟩ := lv_hop d _ _ h.high r hr a ha
          have c' := (has_in h.high.1 a).1 c
          refine ⟨(has_in h.1 a).2 (by omega), ?_⟩
          rw [e, highH_get, e1]
          congr 1
          omega
end Go.Proofs.Ytdkkeaegmmepfaa.Tb
/- Leaves as routes. -/
namespace Go.Proofs.Ytdkkeaegmmepfaa.Tb

theorem chain_cover : ∀ {R : List Rt} {s e a : Int}, Chain s R e → s ≤ a → a < e → ∃ r ∈ R, has r.p a
  | [], s, e, a, h, h1, h2 => by
    have h : s = e := h
    omega
  | r :: R, s, e, a, h, h1, h2 => by
    obtain ⟨k1, k2, k3⟩ := h
    by_cases c : a ≤ lst r.p
    · exact ⟨r, List.mem_cons_self .., k1, by omega, c⟩
    · obtain ⟨q, hq, hqa⟩ := chain_cover k3 (by omega) h2
      exact ⟨q, List.mem_cons_of_mem _ hq, hqa⟩
theorem chain_ok : ∀ {R : List Rt} {s e : Int}, Chain s R e → ∀ r ∈ R, Tb.ok r.p ∧ s ≤ fst r.p
  | [], _, _, _, r, hr => by cases hr
  | q :: R, s, e, h, r, hr => by
    obtain ⟨k1, k2, k3⟩ := h
    rcases List.mem_cons.1 hr with rfl | hr
    · exact ⟨k1, by omega⟩
    · obtain ⟨a1, a2⟩ := chain_ok k3 r hr
      have := (fst_le k1).1
      exact ⟨a1, by omega⟩
theorem chain_pair : ∀ {R : List Rt} {s e : Int}, Chain s R e → R.Pairwise (fun r s => less r.p s.p)
  | [], _, _, _ => List.Pairwise.nil
  | q :: R, s, e, h => by
    obtain ⟨k1, k2, k3⟩ := h
    refine List.pairwise_cons.2 ⟨fun r hr => ?_, chain_pair k3⟩
    obtain ⟨_, a2⟩ := chain_ok k3 r hr
    have := (fst_le k1).1
    exact .inl (by omega)
theorem look_hops {a h : Int} : ∀ (R : List Rt) (s : Int), (∀ r ∈ R, has r.p a → r.hop = h) → (R.foldl (lookF a) s = h) ∨ (R.foldl (lookF a) s = s ∧ ∀ r ∈ R, ¬ has r.p a)
  | [], s, _ => .inr ⟨rfl, fun r hr => by cases hr⟩
  | q :: R, s, hh => by
    rw [List.foldl_cons]
    by_cases c : has q.p a
    · have e : lookF a s q = h := by unfold lookF; rw [if_pos c]; exact hh q (List.mem_cons_self ..) c
      rw [e]
      rcases look_hops R h (fun r hr => hh r (List.mem_cons_of_mem _ hr)) with k | ⟨k, _⟩
      · exact .inl k
      · exact .inl k
    · have e : lookF a s q = s := by unfold lookF; rw [if_neg c]
      rw [e]
      rcases look_hops R s (fun r hr => hh r (List.mem_cons_of_mem _ hr)) with k | ⟨k, k2⟩
      · exact .inl k
      · refine .inr ⟨k, fun r hr => ?_⟩
        rcases List.mem_cons.1 hr with rfl | hr
        · exact c
        · exact k2 r hr
theorem fst00' : fst ⟨0, 0⟩ = 0 := by decide
theorem lst00' : lst ⟨0, 0⟩ + 1 = 256 := by decide
theorem lv_look {hs : List Int} (h : Fit 8 ⟨0, 0⟩ hs) {n : Nat} (hn : n < 256) : look (lv 8 ⟨0, 0⟩ hs) n = hs.getD n 0 := by
  have hc := lv_chain 8 _ _ h
  rw [fst00', lst00'] at hc
  have hh : ∀ r ∈ lv 8 ⟨0, 0⟩ hs, has r.p n → r.hop = hs.getD n 0 := fun r hr ha => by
    have := (lv_hop 8 _ _ h r hr n ha).2
    rwa [fst00', Int.sub_zero, Int.toNat_natCast] at this
  rcases look_hops _ (-1) hh with k | ⟨_, k⟩
  · exact k
  · obtain ⟨r, hr, ha⟩ := chain_cover hc (a := (n : Int)) (by omega) (by omega)
    exact absurd ha (k r hr)
theorem look_hopOK {L : List Rt} (hw : Wf L) (a : Int) : hopOK (look L a) := by
  unfold look
  suffices h : ∀ (R : List Rt) (s : Int), (∀ r ∈ R, hopOK r.hop) → hopOK s → hopOK (R.foldl (lookF a) s) from h L (-1) (fun r hr => (hw.1 r hr).2) (by decide)
  intro R
  induction R with
  | nil => exact fun s _ h => h
  | cons q R ih =>
    intro s h1 h2
    rw [List.foldl_cons]
    refine ih _ (fun r hr => h1 r (List.mem_cons_of_mem _ hr)) ?_
    unfold lookF
    split
    · exact h1 q (List.mem_cons_self ..)
    · exact h2
theorem lv_wf {hs : List Int} (h : Fit 8 ⟨0, 0⟩ hs) (hh : ∀ n, n < 256 → hopOK (hs.getD n 0)) : Wf (lv 8 ⟨0, 0⟩ hs) := by
  have hc := lv_chain 8 _ _ h
  refine ⟨fun r hr => ?_, chain_pair hc⟩
  have hok := (chain_ok hc r hr).1
  refine ⟨hok, ?_⟩
  obtain ⟨h1, h2⟩ := lv_hop 8 _ _ h r hr (fst r.p) (has_first hok)
  rw [h2, fst00', Int.sub_zero]
  have := has_range h1
  exact hh _ (by omega)
theorem chain_nth {R : List Rt} {s e : Int} {k : Nat} (h : Chain s (R.drop k) e) (hk : k < R.length) : Tb.ok (nth R k).p ∧ fst (nth R k).p = s ∧ Chain (lst (nth R k).p + 1) (R.drop (k + 1)) e := by
  rw [List.drop_eq_getElem_cons hk, ← nth_eq hk] at h
  exact h
def cnt (R : List Rt) (a : Int) : Nat := R.countP fun r => decide (has r.p a)
theorem cnt_snoc {R : List Rt} {a : Int} {k : Nat} (hk : k < R.length) : cnt (R.take (k + 1)) a = cnt (R.take k) a + if has (nth R k).p a then 1 else 0 := by
  rw [take_succ hk]
  unfold cnt
  rw [List.countP_append, List.countP_cons, List.countP_nil]
  simp
theorem chain_cnt : ∀ {R : List Rt} {s e a : Int}, Chain s R e → cnt R a = if s ≤ a ∧ a < e then 1 else 0
  | [], s, e, a, h => by
    have h : s = e := h
    rw [if_neg (by omega)]; rfl
  | q :: R, s, e, a, h => by
    obtain ⟨k1, k2, k3⟩ := h
    have ih := chain_cnt (a := a) k3
    have hle := (fst_le k1).1
    have hend : ∀ {R : List Rt} {s e : Int}, Chain s R e → s ≤ e := by
      intro R
      induction R with
      | nil => intro s e h; have h : s = e := h; omega
      | cons q R ih => intro s e h; obtain ⟨a1, a2, a3⟩ := h; have := ih a3; have := (fst_le a1).1; omega
    have he := hend k3
    unfold cnt at ih ⊢
    rw [List.countP_cons, ih]
    by_cases c : has q.p a
    · have c2 := c.2
      rw [if_neg (by omega), if_pos (by simpa using c), if_pos (by omega)]
    · have c2 : ¬ (fst q.p ≤ a ∧ a ≤ lst q.p) := fun k => c ⟨k1, k.1, k.2⟩
      rw [if_neg (by simpa using c : ¬ decide (has q.p a) = true)]
      by_cases d : lst q.p + 1 ≤ a ∧ a < e
      · rw [if_pos d, if_pos (by omega)]
      · rw [if_neg d, if_neg (by omega)]
theorem allOf_ext {L M : List Rt} (h : ∀ n : Nat, n < 256 → look L n = look M n) : allOf L = allOf M := by
  unfold allOf
  apply List.map_congr_left
  intro n hn
  exact h n (List.mem_range.1 hn)
end Go.Proofs.Ytdkkeaegmmepfaa.Tb
/- Each part of a trie stands where it should. -/
namespace Go.Proofs.Ytdkkeaegmmepfaa.Tb

def Good : Tr → Pf → Prop
  | .leaf q _, p => q = p
  | .node q l r, p => q = p ∧ 0 ≤ p.len ∧ p.len < 8 ∧ 0 ≤ p.bits ∧ p.bits < 256 ∧ ¬ (l.isLeaf = true ∧ r.isLeaf = true ∧ l.hop0 = r.hop0) ∧ Good l (child p 0) ∧ Good r (child p 1)
theorem good_mk : ∀ (d : Nat) (p : Pf) (hs : List Int), Fit d p hs → Good (mkT d p hs) p
  | 0, _, _, _ => rfl
  | d + 1, p, hs, h => by
    by_cases k : alike hs
    · rw [(mkT_alike (d + 1) p hs h).2 k]; rfl
    · have hn := mkT_node h k
      rw [hn]
      refine ⟨rfl, h.1.1, h.lt, h.1.2.2.1, ?_, ?_, good_mk d _ _ h.low, good_mk d _ _ h.high⟩
      · rcases ok_cases h.1 with h | h | h | h | h | h | h | h | h <;> (have := h.2.2; omega)
      · intro e
        have : (mkT (d + 1) p hs).isLeaf = true := by
          show (join p (mkT d (child p 0) (lowH hs)) (mkT d (child p 1) (highH hs))).isLeaf = true
          unfold join
          rw [if_pos e]
          rfl
        exact k ((mkT_alike (d + 1) p hs h).1.1 this)
theorem good_root : ∀ {T : Tr} {p : Pf}, Good T p → T.root = p
  | .leaf _ _, _, h => h
  | .node _ _ _, _, h => h.1
end Go.Proofs.Ytdkkeaegmmepfaa.Tb
