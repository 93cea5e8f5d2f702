/- Halves, spans and covers of prefixes; no program. -/
import Derived.Test.YtglngngcohcmfaaDoorPfMath2
namespace Go.Proofs.YtglngngcohcmfaaDoor.Tb

theorem span_pos (p : Pf) : 0 < span p := Int.pow_pos (by decide)
theorem child_ok {p : Pf} {bit : Int} (h : ok p) (hl : p.len < 8) (h0 : 0 ≤ bit) (h1 : bit ≤ 1) : ok (child p bit) ∧ span p = 2 * span (child p bit) := by
  obtain ⟨k1, k2, k3, k4⟩ := h
  have e : (p.len + 1).toNat = p.len.toNat + 1 := by omega
  refine ⟨⟨by show 0 ≤ p.len + 1; omega, by show p.len + 1 ≤ 8; omega, by show 0 ≤ p.bits * 2 + bit; omega, ?_⟩, ?_⟩
  · show p.bits * 2 + bit < 2 ^ (p.len + 1).toNat
    rw [e, Int.pow_succ]
    omega
  · show (2 : Int) ^ (8 - p.len).toNat = 2 * 2 ^ (8 - (p.len + 1)).toNat
    have e2 : (8 - p.len).toNat = (8 - (p.len + 1)).toNat + 1 := by omega
    rw [e2, Int.pow_succ, Int.mul_comm]
/-- The ends of a child. -/
theorem child_ends {p : Pf} {bit : Int} (h : ok p) (hl : p.len < 8) (h0 : 0 ≤ bit) (h1 : bit ≤ 1) : ∃ s, 0 < s ∧ lst p = fst p + 2 * s - 1 ∧ fst (child p bit) = fst p + bit * s ∧ lst (child p bit) = fst p + bit * s + s - 1 := by
  obtain ⟨k, e⟩ := child_ok h hl h0 h1
  refine ⟨span (child p bit), span_pos _, ?_, ?_, ?_⟩
  · rw [lst_ok h, fst_ok h, e]
  · rw [fst_ok k, fst_ok h, e]
    show (p.bits * 2 + bit) * span (child p bit) = _
    rw [Int.add_mul, Int.mul_assoc]
  · rw [lst_ok k, fst_ok h, e]
    show (p.bits * 2 + bit) * span (child p bit) + _ - 1 = _
    rw [Int.add_mul, Int.mul_assoc]
theorem has_iff {p : Pf} (h : ok p) (a : Int) : has p a ↔ fst p ≤ a ∧ a ≤ lst p := ⟨fun k => k.2, fun k => ⟨h, k⟩⟩
theorem halves {p : Pf} (h : ok p) (hl : p.len < 8) (a : Int) : ¬ (has (child p 0) a ∧ has (child p 1) a) ∧ (has p a ↔ has (child p 0) a ∨ has (child p 1) a) := by
  have k0 := (child_ok (bit := 0) h hl (by decide) (by decide))
  have k1 := (child_ok (bit := 1) h hl (by decide) (by decide))
  have hs : span (child p 0) = span (child p 1) := by have := k0.2; have := k1.2; omega
  obtain ⟨s, s1, s2, s3, s4⟩ := child_ends (bit := 0) h hl (by decide) (by decide)
  obtain ⟨t, t1, t2, t3, t4⟩ := child_ends (bit := 1) h hl (by decide) (by decide)
  have e : s = t := by omega
  subst e
  rw [has_iff h, has_iff k0.1, has_iff k1.1]
  omega
theorem parent_child {p : Pf} {bit : Int} (h : ok p) (hl : p.len < 8) (h0 : 0 ≤ bit) (h1 : bit ≤ 1) : hasParent (child p bit) ∧ parent (child p bit) = p := by
  refine ⟨⟨(child_ok h hl h0 h1).1, by show 0 < p.len + 1; have := h.1; omega⟩, pf_eq ?_ ?_⟩
  · show p.len + 1 - 1 = p.len
    omega
  · show (p.bits * 2 + bit) / 2 = p.bits
    omega
theorem ends_inj {p q : Pf} (hp : ok p) (hq : ok q) (h1 : fst q = fst p) (h2 : lst q = lst p) : p = q := by
  rw [fst_ok hp, fst_ok hq] at h1
  rw [lst_ok hp, lst_ok hq] at h2
  have hs : span p = span q := by omega
  have hl : p.len = q.len := by
    rcases ok_cases hp with c | c | c | c | c | c | c | c | c <;> rcases ok_cases hq with d | d | d | d | d | d | d | d | d <;> (obtain ⟨c1, c2, _⟩ := c; obtain ⟨d1, d2, _⟩ := d; omega)
  refine pf_eq hl ?_
  rw [hs] at h1
  exact (Int.eq_of_mul_eq_mul_right (Int.ne_of_gt (span_pos q)) h1).symm
theorem span_split {p q : Pf} (hp : ok p) (hq : ok q) (hl : p.len ≤ q.len) : span p = span q * 2 ^ (q.len - p.len).toNat := by
  show (2 : Int) ^ (8 - p.len).toNat = 2 ^ (8 - q.len).toNat * 2 ^ (q.len - p.len).toNat
  have e : (8 - p.len).toNat = (8 - q.len).toNat + (q.len - p.len).toNat := by have := hp.1; have := hq.2.1; omega
  rw [e, Int.pow_add]
theorem has_up {p q : Pf} (hp : ok p) (hq : ok q) (hl : p.len ≤ q.len) {a : Int} (h : has q a) : a / span p = q.bits / 2 ^ (q.len - p.len).toNat := by
  rw [span_split hp hq hl, ← (has_div hq).1 h, Int.ediv_ediv_of_nonneg (by have := span_pos q; omega)]
theorem covers_has {p q : Pf} (h : covers p q) {a : Int} (k : has q a) : has p a := by
  obtain ⟨h1, h2, h3, h4⟩ := h
  rw [has_div h1, has_up h1 h2 h3 k, h4]
theorem covers_of {p q : Pf} {a : Int} (hp : has p a) (hq : has q a) (hl : p.len ≤ q.len) : covers p q :=
  ⟨hp.1, hq.1, hl, by rw [← has_up hp.1 hq.1 hl hq]; exact (has_div hp.1).1 hp⟩
theorem apart_or {p q : Pf} {a : Int} (hp : has p a) (hq : has q a) : covers p q ∨ covers q p := by
  by_cases h : p.len ≤ q.len
  · exact .inl (covers_of hp hq h)
  · exact .inr (covers_of hq hp (by omega))
theorem span_len {p q : Pf} (hp : ok p) (hq : ok q) (h : span q ≤ span p) : p.len ≤ q.len := by
  rcases ok_cases hp with c | c | c | c | c | c | c | c | c <;> rcases ok_cases hq with d | d | d | d | d | d | d | d | d <;> (obtain ⟨c1, c2, _⟩ := c; obtain ⟨d1, d2, _⟩ := d; omega)
/-- The document's words for 'covers'. -/
theorem covers_all (p q : Pf) : covers p q ↔ (ok p ∧ ok q ∧ ∀ k : Nat, k < 256 → has q k → has p k) := by
  constructor
  · exact fun h => ⟨h.1, h.2.1, fun k _ hk => covers_has h hk⟩
  · rintro ⟨h1, h2, h3⟩
    have hr := fst_le h2
    have hr0 := fst_ge h2
    obtain ⟨x, hx⟩ := Int.eq_ofNat_of_zero_le hr0
    obtain ⟨y, hy⟩ := Int.eq_ofNat_of_zero_le (show 0 ≤ lst q by omega)
    have k1 := h3 x (by omega) (by rw [← hx]; exact has_first h2)
    have k2 := h3 y (by omega) (by rw [← hy]; exact has_last h2)
    rw [← hx] at k1
    rw [← hy] at k2
    refine covers_of k1 (has_first h2) (span_len h1 h2 ?_)
    have e1 := k1.2.1
    have e2 := k2.2.2
    rw [fst_ok h1] at e1
    rw [lst_ok h1] at e2
    have e3 := fst_ok h2
    have e4 := lst_ok h2
    omega
end Go.Proofs.YtglngngcohcmfaaDoor.Tb
