/- No way goes round. -/
import Derived.Test.YtdpgbgapelgomaaNtMath3
import Derived.Test.YtdpgbgapelgomaaNt6
namespace Go.Proofs.Ytdpgbgapelgomaa.Nt
open Nd

/-- Is q's best of dst better than p's? -/
def Bet (t : NT) (dst p q : Nat) : Prop := betB ((t.N q).bS dst) ((t.N q).bD dst) ((t.N p).bS dst) ((t.N p).bD dst) = true
theorem Bet.trans {t : NT} {dst p q r : Nat} (h : Bet t dst p q) (k : Bet t dst q r) : Bet t dst p r := by
  unfold Bet at *; rw [betB_iff] at *; omega
theorem Bet.irr {t : NT} {dst p : Nat} (h : Bet t dst p p) : False := by
  unfold Bet at h; rw [betB_iff] at h; omega
theorem hop_self {t : NT} {n dst : Nat} (h : Str t n) (hd : dst < 6) : hopT t dst dst = dst := by
  unfold hopT
  rw [Int.toNat_natCast, wayAt, if_pos ⟨by omega, by omega⟩, Int.toNat_natCast]
  have := (h.ok.run dst hd).own.h
  rw [h.ok.me dst hd] at this
  exact this
theorem hop_step {t : NT} {n dst p : Nat} (h : Str t n) (hd : dst < 6) (hp : p < 6) (hne : p ≠ dst) (hN : isN (hopT t dst p)) : ∃ f : Nat, f < 6 ∧ hopT t dst p = f ∧ 0 < t.C p f ∧ Bet t dst p f := by
  have e : hopT t dst p = (t.N p).wH dst := by
    unfold hopT
    rw [Int.toNat_natCast, wayAt, if_pos ⟨by omega, by omega⟩, Int.toNat_natCast]
    rfl
  rw [e] at hN ⊢
  have hm : dst ≠ (t.N p).me := by rw [h.ok.me p hp]; exact fun e => hne e.symm
  obtain ⟨f, a1, a2, a3, _, _, _, a7, _⟩ := ((h.nice p hp).bst.way dst hd hm).via (fun h => by unfold isN at hN; omega)
  rw [h.cost p f hp a1] at a3
  refine ⟨f, a1, a2, a3, ?_⟩
  have h1 := h.heard p f dst hp a1 hd
  unfold Bet
  rw [betB_no] at h1
  rw [betB_iff] at a7 ⊢
  omega
/-- Each is by a link, and better. -/
def Chain (t : NT) (dst : Nat) (l : List Int) : Prop := ∀ i, i + 1 < l.length → ∃ a b : Nat, a < 6 ∧ b < 6 ∧ a ≠ dst ∧ l.getD i 0 = a ∧ l.getD (i + 1) 0 = b ∧ 0 < t.C a b ∧ Bet t dst a b
theorem Chain.far {t : NT} {dst : Nat} {l : List Int} (h : Chain t dst l) : ∀ (d i : Nat), i + (d + 1) < l.length → ∃ a b : Nat, l.getD i 0 = a ∧ l.getD (i + (d + 1)) 0 = b ∧ Bet t dst a b
  | 0, i, hi => by
    obtain ⟨a, b, _, _, _, e1, e2, _, hb⟩ := h i hi
    exact ⟨a, b, e1, e2, hb⟩
  | d + 1, i, hi => by
    obtain ⟨a, b, e1, e2, hb⟩ := Chain.far h d i (by omega)
    obtain ⟨c, e, _, _, _, e3, e4, _, hc⟩ := h (i + (d + 1)) (by omega)
    rw [e2] at e3
    have : b = c := by omega
    subst this
    exact ⟨a, e, e1, e4, hb.trans hc⟩
theorem getD_left {l : List Int} {p : Int} {i : Nat} (h : i < l.length) : (l ++ [p]).getD i 0 = l.getD i 0 := by
  rw [List.getD_eq_getElem?_getD, List.getD_eq_getElem?_getD, List.getElem?_append_left h]
theorem getD_last {l : List Int} {p : Int} : (l ++ [p]).getD l.length 0 = p := by
  rw [List.getD_eq_getElem?_getD, List.getElem?_append_right (Nat.le_refl _), Nat.sub_self]; rfl
structure PathOk (t : NT) (dst : Nat) (r : List Int × Bool) : Prop where
  ok : r.2 = true
  lo : 0 < r.1.length
  hi : r.1.length ≤ 6
  ch : Chain t dst r.1
theorem pathF_ok {t : NT} {n dst : Nat} (h : Str t n) (hd : dst < 6) : ∀ (f : Nat) (out : List Int) (p : Int), out.length + f = 7 → out.Nodup → (∀ y ∈ out, isN y) → Chain t dst out →
    (out = [] → isN p) → (∀ k, out.length = k + 1 → ∃ l : Nat, l < 6 ∧ out.getD k 0 = l ∧ hopT t dst l = p) → PathOk t dst (pathF (hopT t dst) dst f out p)
  | 0, out, p, hf, hnd, hall, _, _, _ => by
    have := nodup_len 6 out hnd (fun y hy => hall y hy)
    omega
  | f + 1, out, p, hf, hnd, hall, hch, hemp, hlast => by
    have h6 := nodup_len 6 out hnd (fun y hy => hall y hy)
    rw [pathF]
    split
    · rename_i hp
      split
      · rename_i hm
        have hpos : 0 < out.length := List.length_pos_of_mem hm
        refine ⟨?_, hpos, h6, hch⟩
        obtain ⟨l, hl, e1, e2⟩ := hlast (out.length - 1) (by omega)
        by_cases hld : l = dst
        · subst hld
          rw [hop_self h hd] at e2
          show (p == (l : Int)) = true
          simp [e2]
        · exfalso
          obtain ⟨g, _, e3, _, hb⟩ := hop_step h hd hl hld (by rw [e2]; exact hp)
          obtain ⟨i, hi, e4⟩ := List.mem_iff_getElem.1 hm
          have e5 : out.getD i 0 = p := by simp [hi, e4]
          by_cases hie : i = out.length - 1
          · rw [hie, e1] at e5
            have : g = l := by omega
            subst this
            exact hb.irr
          · obtain ⟨a, b, e6, e7, hb2⟩ := hch.far (out.length - 1 - i - 1) i (by omega)
            rw [show i + (out.length - 1 - i - 1 + 1) = out.length - 1 from by omega, e1] at e7
            rw [e5] at e6
            have ha : a = g := by omega
            have hbl : b = l := by omega
            subst ha hbl
            exact (hb.trans hb2).irr
      · rename_i hm
        have hp' := hp
        obtain ⟨p0, p1⟩ := hp'
        obtain ⟨q, rfl⟩ := Int.eq_ofNat_of_zero_le p0
        refine pathF_ok h hd f (out ++ [(q : Int)]) _ (by simp; omega) ?_ ?_ ?_ (fun h => by simp at h) ?_
        · refine List.nodup_append.2 ⟨hnd, by simp, fun a ha b hb => ?_⟩
          simp at hb
          subst hb
          exact fun e => hm (e ▸ ha)
        · intro y hy
          rcases List.mem_append.1 hy with h | h
          · exact hall y h
          · simp at h; subst h; exact hp
        · intro i hi
          rw [List.length_append] at hi
          simp only [List.length_cons, List.length_nil] at hi
          by_cases hie : i + 1 < out.length
          · obtain ⟨a, b, e⟩ := hch i hie
            rw [← getD_left (p := (q : Int)) (show i < out.length by omega), ← getD_left (p := (q : Int)) hie] at e
            exact ⟨a, b, e⟩
          · have hil : out.length = i + 1 := by omega
            obtain ⟨l, hl, e1, e2⟩ := hlast i hil
            have hld : l ≠ dst := fun e => by
              subst e
              rw [hop_self h hd] at e2
              refine hm ?_
              rw [← e2, ← e1, List.getD_eq_getElem?_getD, List.getElem?_eq_getElem (by omega)]
              exact List.getElem_mem _
            obtain ⟨g, hg, e3, hc, hb⟩ := hop_step h hd hl hld (by rw [e2]; exact hp)
            have : g = q := by omega
            subst this
            exact ⟨l, g, hl, hg, hld, by rw [getD_left (by omega)]; exact e1, by rw [← hil]; exact getD_last, hc, hb⟩
        · intro k hk
          simp only [List.length_append, List.length_cons, List.length_nil] at hk
          obtain rfl : k = out.length := by omega
          exact ⟨q, by omega, getD_last, rfl⟩
    · rename_i hp
      have hpos : 0 < out.length := by
        cases out with
        | nil => exact absurd (hemp rfl) hp
        | cons a l => simp
      exact ⟨rfl, hpos, h6, hch⟩
theorem pathT_ok {t : NT} {n a dst : Nat} (h : Str t n) (ha : a < 6) (hd : dst < 6) : PathOk t dst (pathT t a dst) :=
  pathF_ok h hd 7 [] a rfl List.nodup_nil (fun y hy => by cases hy) (fun i hi => by simp at hi) (fun _ => ⟨by omega, by omega⟩) (fun k hk => by simp at hk)
end Go.Proofs.Ytdpgbgapelgomaa.Nt
