/- Texts of prefixes, as lists of bytes; no program. -/
import Derived.Test.YtglngngcohcmfaaDoorTbMath
import Derived.Lib.Strings
import Derived.Lib.Repeat
namespace Go.Proofs.YtglngngcohcmfaaDoor.Tb

def dg (b : Nat) : UInt8 := if b % 2 = 1 then 49 else 48
/-- The last n bits of a number. -/
def bts : Nat → Nat → List UInt8
  | _, 0 => []
  | b, n + 1 => bts (b / 2) n ++ [dg b]
/-- A number's numeral of bits. -/
def bdF : Nat → Nat → List UInt8
  | 0, b => [dg b]
  | f + 1, b => if b < 2 then [dg b] else bdF f (b / 2) ++ [dg b]
def bd (b : Nat) : List UInt8 := bdF 8 b
theorem bd_bts : ∀ l, l < 9 → ∀ b, b < 256 → 0 < l → b < 2 ^ l → Lib.repeatL [48] (l - (bd b).length) ++ bd b = bts b l := by decide +kernel
theorem bd_len : ∀ l, l < 9 → ∀ b, b < 256 → 0 < l → b < 2 ^ l → (bd b).length ≤ l := by decide +kernel
theorem bdF_lt {f b : Nat} (h : b < 2) : bdF f b = [dg b] := by
  cases f with
  | zero => rfl
  | succ f => unfold bdF; rw [if_pos h]
theorem bdF_ge {f b : Nat} (h : 2 ≤ b) : bdF (f + 1) b = bdF f (b / 2) ++ [dg b] := by
  show (if b < 2 then [dg b] else bdF f (b / 2) ++ [dg b]) = _
  rw [if_neg (by omega)]

def isb (c : UInt8) : Prop := c = 48 ∨ c = 49
instance (c : UInt8) : Decidable (isb c) := by unfold isb; infer_instance
def allb (l : List UInt8) : Prop := ∀ c ∈ l, isb c
theorem dg_isb (b : Nat) : isb (dg b) := by
  unfold dg isb
  by_cases h : b % 2 = 1
  · rw [if_pos h]; exact .inr rfl
  · rw [if_neg h]; exact .inl rfl
theorem bts_len : ∀ (n b : Nat), (bts b n).length = n
  | 0, _ => rfl
  | n + 1, b => by show (bts (b / 2) n ++ [dg b]).length = _; rw [List.length_append, bts_len n]; rfl
theorem bts_allb : ∀ (n b : Nat), allb (bts b n)
  | 0, _ => fun c hc => by cases hc
  | n + 1, b => fun c hc => by
    rcases List.mem_append.1 hc with h | h
    · exact bts_allb n (b / 2) c h
    · rw [List.mem_singleton] at h
      rw [h]
      exact dg_isb b
def vl (l : List UInt8) : Nat := l.foldl (fun a c => a * 2 + (c.toNat - 48)) 0
theorem vl_nil : vl [] = 0 := rfl
theorem vl_snoc (l : List UInt8) (c : UInt8) : vl (l ++ [c]) = vl l * 2 + (c.toNat - 48) := by unfold vl; rw [List.foldl_append]; rfl
theorem isb_val {c : UInt8} (h : isb c) : c.toNat - 48 = 0 ∧ c = 48 ∨ c.toNat - 48 = 1 ∧ c = 49 := by
  rcases h with rfl | rfl
  · exact .inl ⟨rfl, rfl⟩
  · exact .inr ⟨rfl, rfl⟩
theorem dg_val {a : Nat} {c : UInt8} (h : isb c) : dg (a * 2 + (c.toNat - 48)) = c := by
  unfold dg
  rcases isb_val h with ⟨e, rfl⟩ | ⟨e, rfl⟩
  · rw [e, if_neg (by omega)]
  · rw [e, if_pos (by omega)]
theorem dg_toNat (b : Nat) : (dg b).toNat - 48 = b % 2 := by
  unfold dg
  by_cases h : b % 2 = 1
  · rw [if_pos h, h]; rfl
  · rw [if_neg h, show b % 2 = 0 from by omega]; rfl
theorem allb_snoc {l : List UInt8} {c : UInt8} (h : allb (l ++ [c])) : allb l ∧ isb c := ⟨fun x hx => h x (List.mem_append_left _ hx), h c (List.mem_append_right _ (List.mem_singleton.2 rfl))⟩
theorem snoc_cases (l : List UInt8) : l = [] ∨ ∃ m c, l = m ++ [c] := by
  by_cases h : l = []
  · exact .inl h
  · exact .inr ⟨l.dropLast, l.getLast h, (List.dropLast_concat_getLast h).symm⟩
theorem bts_vl : ∀ (n : Nat) (l : List UInt8), l.length = n → allb l → bts (vl l) n = l
  | 0, l, h, _ => by rw [List.length_eq_zero_iff.1 h]; rfl
  | n + 1, l, h, ha => by
    rcases snoc_cases l with rfl | ⟨m, c, rfl⟩
    · simp at h
    · obtain ⟨hm, hc⟩ := allb_snoc ha
      rw [vl_snoc]
      show bts ((vl m * 2 + (c.toNat - 48)) / 2) n ++ [dg (vl m * 2 + (c.toNat - 48))] = _
      rw [dg_val hc]
      have e : (vl m * 2 + (c.toNat - 48)) / 2 = vl m := by rcases isb_val hc with ⟨e, _⟩ | ⟨e, _⟩ <;> omega
      rw [e, bts_vl n m (by simpa using h) hm]
theorem vl_lt : ∀ (n : Nat) (l : List UInt8), l.length = n → allb l → vl l < 2 ^ n
  | 0, l, h, _ => by rw [List.length_eq_zero_iff.1 h]; decide
  | n + 1, l, h, ha => by
    rcases snoc_cases l with rfl | ⟨m, c, rfl⟩
    · simp at h
    · obtain ⟨hm, hc⟩ := allb_snoc ha
      rw [vl_snoc, Nat.pow_succ]
      have := vl_lt n m (by simpa using h) hm
      rcases isb_val hc with ⟨e, _⟩ | ⟨e, _⟩ <;> omega
theorem vl_bts : ∀ (n b : Nat), b < 2 ^ n → vl (bts b n) = b
  | 0, b, h => by rw [show b = 0 from by simpa using h]; rfl
  | n + 1, b, h => by
    show vl (bts (b / 2) n ++ [dg b]) = b
    rw [Nat.pow_succ] at h
    rw [vl_snoc, vl_bts n (b / 2) (by omega), dg_toNat]
    omega
/-- What stands behind the bits. -/
def tl (n : Nat) : List UInt8 := if n < 8 then [42] else []
theorem tl_lt {n : Nat} (h : n < 8) : tl n = [42] := by unfold tl; rw [if_pos h]
theorem tl_ge {n : Nat} (h : ¬ n < 8) : tl n = [] := by unfold tl; rw [if_neg h]
/-- A prefix's text. -/
def txt (p : Pf) : List UInt8 := if ok p then bts p.bits.toNat p.len.toNat ++ tl p.len.toNat else []
theorem txt_ok {p : Pf} (h : ok p) : txt p = bts p.bits.toNat p.len.toNat ++ tl p.len.toNat := by unfold txt; rw [if_pos h]
theorem txt_no {p : Pf} (h : ¬ ok p) : txt p = [] := by unfold txt; rw [if_neg h]
/-- The text tells the prefix. -/
def tells (s : List UInt8) (p : Pf) : Prop := ok p ∧ txt p = s
instance (s : List UInt8) (p : Pf) : Decidable (tells s p) := by unfold tells; infer_instance
theorem no42 {l : List UInt8} (h : allb l) : (42 : UInt8) ∉ l := fun k => by rcases h _ k with e | e <;> exact absurd e (by decide)
theorem snoc_eq {a b : List UInt8} {x : UInt8} (h : a ++ [x] = b ++ [x]) : a = b := List.append_cancel_right h
theorem parts_eq {t u : List UInt8} (ht : allb t) (hu : allb u) (h : t ++ tl t.length = u ++ tl u.length) : t = u := by
  by_cases h1 : t.length < 8
  · rw [tl_lt h1] at h
    by_cases h2 : u.length < 8
    · rw [tl_lt h2] at h
      exact snoc_eq h
    · rw [tl_ge h2, List.append_nil] at h
      exact absurd (h ▸ List.mem_append_right _ (List.mem_singleton.2 rfl)) (no42 hu)
  · rw [tl_ge h1, List.append_nil] at h
    by_cases h2 : u.length < 8
    · rw [tl_lt h2] at h
      exact absurd (h ▸ List.mem_append_right _ (List.mem_singleton.2 rfl)) (no42 ht)
    · rw [tl_ge h2, List.append_nil] at h
      exact h
theorem toNat_lt {p : Pf} (h : ok p) : p.bits.toNat < 2 ^ p.len.toNat := by
  obtain ⟨h1, h2, h3, h4⟩ := h
  have e : ((2 ^ p.len.toNat : Nat) : Int) = 2 ^ p.len.toNat := by simp
  omega
theorem ok_of {n b : Nat} (h1 : n ≤ 8) (h2 : b < 2 ^ n) : ok ⟨n, b⟩ := by
  refine ⟨by show (0 : Int) ≤ n; omega, by show (n : Int) ≤ 8; omega, by show (0 : Int) ≤ b; omega, ?_⟩
  show (b : Int) < 2 ^ (n : Int).toNat
  rw [Int.toNat_natCast]
  have e : ((2 ^ n : Nat) : Int) = 2 ^ n := by simp
  omega
theorem tells_of {t : List UInt8} (ht : allb t) (hl : t.length ≤ 8) : tells (t ++ tl t.length) ⟨t.length, vl t⟩ := by
  have hv := vl_lt t.length t rfl ht
  have ho := ok_of hl hv
  refine ⟨ho, ?_⟩
  rw [txt_ok ho]
  show bts ((vl t : Nat) : Int).toNat ((t.length : Nat) : Int).toNat ++ tl ((t.length : Nat) : Int).toNat = _
  rw [Int.toNat_natCast, Int.toNat_natCast, bts_vl _ t rfl ht]
theorem tells_shape {s : List UInt8} {p : Pf} (h : tells s p) : ∃ t, allb t ∧ t.length ≤ 8 ∧ s = t ++ tl t.length ∧ p = ⟨t.length, vl t⟩ := by
  obtain ⟨ho, rfl⟩ := h
  have h8 : p.len.toNat ≤ 8 := by have := ho.2.1; omega
  refine ⟨bts p.bits.toNat p.len.toNat, bts_allb _ _, by rw [bts_len]; exact h8, ?_, ?_⟩
  · rw [bts_len, txt_ok ho]
  · rw [bts_len, vl_bts _ _ (toNat_lt ho)]
    refine pf_eq ?_ ?_
    · show p.len = (p.len.toNat : Int)
      have := ho.1; omega
    · show p.bits = (p.bits.toNat : Int)
      have := ho.2.2.1; omega
theorem tells_inj {s : List UInt8} {p q : Pf} (h : tells s p) (k : tells s q) : p = q := by
  obtain ⟨t, h1, _, h3, rfl⟩ := tells_shape h
  obtain ⟨u, k1, _, k3, rfl⟩ := tells_shape k
  rw [parts_eq h1 k1 (h3.symm.trans k3)]
theorem txt_len (p : Pf) : (txt p).length ≤ 9 := by
  by_cases h : ok p
  · have h8 : p.len.toNat ≤ 8 := by have := h.2.1; omega
    rw [txt_ok h, List.length_append, bts_len]
    unfold tl
    split <;> simp <;> omega
  · rw [txt_no h]; simp
theorem tells_nil (p : Pf) : ¬ tells [] p := fun h => by
  obtain ⟨t, h1, h2, h3, _⟩ := tells_shape h
  have e := congrArg List.length h3
  rw [List.length_append] at e
  unfold tl at e
  split at e <;> simp at e <;> omega
/-- s without its star is t: whichever prefix s tells, t are its bits. -/
def Cut (s t : List UInt8) : Prop := t.length ≤ 8 ∧ ∀ p, tells s p ↔ (allb t ∧ p = ⟨t.length, vl t⟩)
theorem cut_of {s t : List UInt8} (h8 : t.length ≤ 8) (hs : s = t ++ tl t.length) (h : t.length = 8 → ¬ ∃ u, t = u ++ [42]) : Cut s t := by
  refine ⟨h8, fun p => ⟨fun k => ?_, fun ⟨k1, k2⟩ => ?_⟩⟩
  · obtain ⟨u, k1, k2, k3, k4⟩ := tells_shape k
    have e : u = t := by
      have e := k3.symm.trans hs
      by_cases h1 : t.length < 8
      · rw [tl_lt h1] at e
        by_cases h2 : u.length < 8
        · rw [tl_lt h2] at e
          exact snoc_eq e
        · rw [tl_ge h2, List.append_nil] at e
          exact absurd (e ▸ List.mem_append_right _ (List.mem_singleton.2 rfl)) (no42 k1)
      · rw [tl_ge h1, List.append_nil] at e
        by_cases h2 : u.length < 8
        · rw [tl_lt h2] at e
          exact absurd ⟨u, e.symm⟩ (h (by omega))
        · rw [tl_ge h2, List.append_nil] at e
          exact e
    subst e
    exact ⟨k1, k4⟩
  · rw [k2, hs]
    exact tells_of k1 h8
theorem suffix_iff (s : List UInt8) : Lib.hasSuffix s [42] = true ↔ ∃ u, s = u ++ [42] := by
  unfold Lib.hasSuffix
  rw [List.isSuffixOf_iff_suffix]
  exact ⟨fun ⟨u, h⟩ => ⟨u, h.symm⟩, fun ⟨u, h⟩ => ⟨u, h.symm⟩⟩
theorem trim_snoc (u : List UInt8) : Lib.trimSuffix (u ++ [42]) [42] = u := by
  unfold Lib.trimSuffix
  rw [if_pos ((suffix_iff _).2 ⟨u, rfl⟩)]
  simp
theorem trim_no {s : List UInt8} (h : Lib.hasSuffix s [42] = false) : Lib.trimSuffix s [42] = s := by
  unfold Lib.trimSuffix
  rw [if_neg (by rw [h]; decide)]
/-- The ways of 'strings.CutSuffix(s, "*")' with its two tests. -/
theorem cut_cases (s : List UInt8) : (∃ t, Lib.trimSuffix s [42] = t ∧ Cut s t ∧ (Lib.hasSuffix s [42] == ((t.length : Int) == 8)) = false) ∨
    ((8 < (Lib.trimSuffix s [42]).length ∨ (Lib.trimSuffix s [42]).length ≤ 8 ∧ (Lib.hasSuffix s [42] == (((Lib.trimSuffix s [42]).length : Int) == 8)) = true) ∧ ∀ p, ¬ tells s p) := by
  by_cases h : Lib.hasSuffix s [42] = true
  · rw [h]
    obtain ⟨u, rfl⟩ := (suffix_iff s).1 h
    rw [trim_snoc]
    by_cases h1 : u.length < 8
    · refine .inl ⟨u, rfl, cut_of (by omega) (by rw [tl_lt h1]) (fun k => by omega), ?_⟩
      simp; omega
    · refine .inr ⟨?_, fun p k => ?_⟩
      · by_cases h2 : 8 < u.length
        · exact .inl h2
        · exact .inr ⟨by omega, by simp; omega⟩
      · obtain ⟨t, k1, k2, k3, _⟩ := tells_shape k
        by_cases h2 : t.length < 8
        · rw [tl_lt h2] at k3
          rw [snoc_eq k3] at h1
          exact h1 h2
        · rw [tl_ge h2, List.append_nil] at k3
          exact no42 k1 (k3 ▸ List.mem_append_right _ (List.mem_singleton.2 rfl))
  · have h' : Lib.hasSuffix s [42] = false := by simpa using h
    rw [h', trim_no h']
    by_cases h1 : s.length = 8
    · refine .inl ⟨s, rfl, cut_of (by omega) (by rw [tl_ge (by omega), List.append_nil]) (fun _ k => h ((suffix_iff s).2 k)), ?_⟩
      simp; omega
    · refine .inr ⟨?_, fun p k => ?_⟩
      · by_cases h2 : 8 < s.length
        · exact .inl h2
        · exact .inr ⟨by omega, by simp; omega⟩
      · obtain ⟨t, k1, k2, k3, _⟩ := tells_shape k
        by_cases h2 : t.length < 8
        · rw [tl_lt h2] at k3
          exact h ((suffix_iff s).2 ⟨t, k3⟩)
        · rw [tl_ge h2, List.append_nil] at k3
          rw [k3] at h1
          omega
/-- The first bits of a text. -/
theorem lead {s : List UInt8} {k : Nat} (hk : k ≤ s.length) (hb : allb (s.take k)) (he : k = s.length ∨ k = 9 ∨ ∃ c, s[k]? = some c ∧ ¬ isb c) (p : Pf) (h : tells s p) : k ≤ 8 ∧ p = ⟨k, vl (s.take k)⟩ := by
  obtain ⟨t, k1, k2, k3, k4⟩ := tells_shape h
  have hl : s.length ≤ 8 := by
    rw [k3, List.length_append]
    unfold tl
    split <;> simp <;> omega
  have e : k = t.length := by
    rcases Nat.lt_trichotomy k t.length with e | e | e
    · exfalso
      rcases he with he | he | ⟨c, hc, hn⟩
      · rw [he, k3, List.length_append] at e; omega
      · omega
      · rw [k3, List.getElem?_append_left e] at hc
        exact hn (k1 c (List.mem_of_getElem? hc))
    · exact e
    · exfalso
      have h8 : t.length < 8 := by omega
      rw [tl_lt h8] at k3
      have hm : (42 : UInt8) ∈ s.take k := by
        refine List.mem_of_getElem? (i := t.length) ?_
        rw [List.getElem?_take, if_pos e, k3]
        simp
      exact no42 hb hm
  refine ⟨by omega, ?_⟩
  rw [k4, e, k3, List.take_left]
end Go.Proofs.YtglngngcohcmfaaDoor.Tb
