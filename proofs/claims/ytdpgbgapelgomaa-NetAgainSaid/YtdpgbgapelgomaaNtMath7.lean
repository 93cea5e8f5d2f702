/- It settles. -/
import Derived.Test.YtdpgbgapelgomaaNtMath4
import Derived.Test.YtdpgbgapelgomaaNtMath6
namespace Go.Proofs.Ytdpgbgapelgomaa.Nt
open Nd

def tw (t : NT) (a b k : Nat) : Nw := ⟨(t.N a).me, b, k, (t.N a).wS k, (t.N a).wD k⟩
/-- One hears one news of what another one tells now. -/
def ev (t : NT) (a b k : Nat) : NT := (Nt.heard t (tw t a b k)).1
theorem tellW_succ (s : NS) (who : Int) (k : Nat) : tellW s who (k + 1) = tellW s who k ++ [⟨s.me, who, k, s.wS k, s.wD k⟩] := by simp [tellW, List.range_succ]
theorem hearL_app (t : NT) (l m : List Nw) : hearL t (l ++ m) = hearL (hearL t l) m := by simp [hearL]
theorem ev_other (t : NT) (a b k : Nat) {c : Nat} (h : c ≠ b) : (ev t a b k).N c = t.N c := by
  show (upN t.N ((b : Int)).toNat _ c) = _
  rw [Int.toNat_natCast]
  exact upN_other _ _ _ _ h
section
variable {Inv : NT → Prop} {Φ : NT → Nat → Nat → Prop} {dst : Nat} {C : Nat → Nat → Int} (hd : dst < 6)
  (hC : ∀ t, Inv t → t.C = C) (hself : ∀ a, a < 6 → C a a = 0)
  (hInv : ∀ t a b k, a < 6 → b < 6 → k < 6 → 0 < C a b → a ≠ b → Inv t → Inv (ev t a b k))
  (hest : ∀ t a b, a < 6 → b < 6 → 0 < C a b → a ≠ b → Inv t → Φ (ev t a b dst) b a)
  (hpres : ∀ t a b k f c, a < 6 → b < 6 → k < 6 → 0 < C a b → a ≠ b → c < 6 → f < 6 → Inv t → Φ t c f → Φ (ev t a b k) c f)
include hInv hest hpres
theorem tell_gen {a b : Nat} (ha : a < 6) (hb : b < 6) (hab : 0 < C a b) (hne : a ≠ b) {t : NT} (h : Inv t) : ∀ n, n ≤ 6 →
    Inv (hearL t (tellW (t.N a) b n)) ∧ (hearL t (tellW (t.N a) b n)).N a = t.N a ∧ (dst < n → Φ (hearL t (tellW (t.N a) b n)) b a) ∧ ∀ c f, c < 6 → f < 6 → Φ t c f → Φ (hearL t (tellW (t.N a) b n)) c f
  | 0, _ => ⟨h, rfl, fun h => by omega, fun _ _ _ _ h => h⟩
  | n + 1, hn => by
    obtain ⟨h1, h2, h3, h4⟩ := tell_gen ha hb hab hne h n (by omega)
    have e : hearL t (tellW (t.N a) b (n + 1)) = ev (hearL t (tellW (t.N a) b n)) a b n := by
      rw [tellW_succ, hearL_app]
      show (Nt.heard _ _).1 = (Nt.heard _ _).1
      unfold tw
      rw [h2]
    rw [e]
    refine ⟨hInv _ a b n ha hb (by omega) hab hne h1, by rw [ev_other _ _ _ _ hne, h2], fun hdn => ?_, fun c f hc hf hp => hpres _ a b n f c ha hb (by omega) hab hne hc hf h1 (h4 c f hc hf hp)⟩
    by_cases e2 : dst = n
    · subst e2; exact hest _ a b ha hb hab hne h1
    · exact hpres _ a b n a b ha hb (by omega) hab hne hb ha h1 (h3 (by omega))
include hd hself
theorem tellB_gen {a : Nat} (ha : a < 6) : ∀ (bs : List Nat) {t : NT}, (∀ b ∈ bs, b < 6 ∧ 0 < C a b) → Inv t → Inv (tellB t a bs) ∧ (∀ b ∈ bs, Φ (tellB t a bs) b a) ∧ ∀ c f, c < 6 → f < 6 → Φ t c f → Φ (tellB t a bs) c f
  | [], _, _, h => ⟨h, fun _ hb => (by cases hb), fun _ _ _ _ h => h⟩
  | b :: bs, t, hbs, h => by
    obtain ⟨hb, hab⟩ := hbs b (by simp)
    have hne : a ≠ b := fun e => by subst e; rw [hself a ha] at hab; omega
    obtain ⟨h1, _, h3, h4⟩ := tell_gen (Φ := Φ) (dst := dst) (C := C) hInv hest hpres ha hb hab hne h 6 (by omega)
    obtain ⟨k1, k2, k3⟩ := tellB_gen ha bs (t := hearL t (tellW (t.N a) b 6)) (fun c hc => hbs c (by simp [hc])) h1
    refine ⟨k1, fun c hc => ?_, fun c f hc hf hp => k3 c f hc hf (h4 c f hc hf hp)⟩
    rcases List.mem_cons.1 hc with e | hc
    · subst e; exact k3 c a hb ha (h3 hd)
    · exact k2 c hc
include hC
theorem roundK_gen {t : NT} (h : Inv t) : ∀ n, n ≤ 6 → Inv (roundK t n) ∧ ∀ a b, a < n → b < 6 → 0 < C a b → Φ (roundK t n) b a
  | 0, _ => ⟨h, fun a b ha => by omega⟩
  | n + 1, hn => by
    obtain ⟨h1, h2⟩ := roundK_gen h n (by omega)
    have e := hC _ h1
    have hm : ∀ b, b ∈ ofL (roundK t n).C n 6 ↔ b < 6 ∧ 0 < C n b := by
      intro b; rw [e]; simp [ofL]
    obtain ⟨k1, k2, k3⟩ := tellB_gen (Φ := Φ) (dst := dst) (C := C) hd hself hInv hest hpres (a := n) (by omega) (ofL (roundK t n).C n 6) (t := roundK t n) (fun b hb => (hm b).1 hb) h1
    refine ⟨k1, fun a b ha hb hc => ?_⟩
    by_cases e2 : a = n
    · subst e2; exact k2 b ((hm b).2 ⟨hb, hc⟩)
    · exact k3 b a hb (by omega) (h2 a b (by omega) hb hc)
end

theorem Str.evT {t : NT} {n : Nat} (h : Str t n) {a b k : Nat} (ha : a < 6) (hb : b < 6) (hk : k < 6) (hne : a ≠ b) : Str (ev t a b k) n := by
  have hme := h.ok.me a ha
  refine h.heardT (x := tw t a b k) ⟨by show (0 : Int) ≤ (b : Int); omega, by show (b : Int) < 6; omega⟩ ⟨?_, ?_, ?_, ?_, ?_⟩
  · show isN ((t.N a).me : Int)
    rw [hme]; exact ⟨by omega, by omega⟩
  · exact ⟨by show (0 : Int) ≤ (k : Int); omega, by show (k : Int) < 6; omega⟩
  · show ((t.N a).me : Int) ≠ (b : Int)
    rw [hme]; omega
  · show (t.N a).wS k ≤ age t ((k : Int)).toNat
    rw [Int.toNat_natCast]; exact (h.cap a ha k hk).1
  · show betB ((t.N a).wS k) ((t.N a).wD k) ((t.N ((t.N a).me : Int).toNat).bS ((k : Int)).toNat) ((t.N ((t.N a).me : Int).toNat).bD ((k : Int)).toNat) = false
    rw [Int.toNat_natCast, Int.toNat_natCast, hme]
    exact (h.nice a ha).w2.told k hk
/-- What it is. -/
theorem ev_at {t : NT} {n : Nat} (h : Str t n) {a b k : Nat} (ha : a < 6) (hb : b < 6) (hk : k < 6) (hne : a ≠ b) (hc : 0 < t.C a b) :
    (ev t a b k).N b = hear (t.N b) a k ((t.N a).wS k) ((t.N a).wD k) := by
  have hme := h.ok.me a ha
  have hmb := h.ok.me b hb
  have h1 := (h.nice a ha).wy.wS k hk
  have h2 := (h.nice a ha).wy.lo k hk
  have h3 := (h.nice a ha).wy.hi k hk
  have hcost : (t.N b).cost a = t.C a b := by rw [h.cost b a hb ha]; exact h.ok.cost.sym b a hb ha
  show upN t.N ((b : Int)).toNat (Nd.hearC (t.N ((b : Int)).toNat) ((t.N a).me : Int) (k : Int) ((t.N a).wS k) ((t.N a).wD k)).1 b = _
  rw [Int.toNat_natCast, upN_same, hme]
  unfold Nd.hearC
  rw [if_neg (by simp only [hearBad]; omega), Int.toNat_natCast, if_neg (by rw [hcost]; omega), Int.toNat_natCast]
theorem ev_C (t : NT) (a b k : Nat) : (ev t a b k).C = t.C := rfl
/-- What is told of others changes nothing of this one. -/
theorem hear_col (s : NS) (a k : Nat) (q dd : Int) {dst : Nat} (h : dst ≠ k) : (∀ f, (hear s a k q dd).hS f dst = s.hS f dst ∧ (hear s a k q dd).hD f dst = s.hD f dst) ∧
    (hear s a k q dd).wS dst = s.wS dst ∧ (hear s a k q dd).wD dst = s.wD dst ∧ (hear s a k q dd).wH dst = s.wH dst ∧ (hear s a k q dd).bS dst = s.bS dst ∧ (hear s a k q dd).bD dst = s.bD dst := by
  unfold hear
  have h1 := pick_heard { s with hS := up2 s.hS a k q, hD := up2 s.hD a k dd } k
  refine ⟨fun f => ?_, ?_⟩
  · rw [h1.1, h1.2.1]
    simp [up2, h]
  · unfold Nd.pick
    split
    · exact ⟨rfl, rfl, rfl, rfl, rfl⟩
    · simp only [lay]
      refine ⟨up_other _ _ _ _ h, up_other _ _ _ _ h, up_other _ _ _ _ h, ?_, ?_⟩
      · split
        · exact up_other _ _ _ _ h
        · rfl
      · split
        · exact up_other _ _ _ _ h
        · rfl
/-- What a choice is. -/
theorem pick_cases {s : NS} {k : Nat} (hm : k ≠ s.me) :
    ((pick s k).wS k = s.bS k ∧ (pick s k).wD k = 200 ∧ (pick s k).wH k = -1 ∧ (pick s k).bS k = s.bS k ∧ (pick s k).bD k = s.bD k ∧ ∀ j, j < 6 → may s j k = false) ∨
    ∃ f, f < 6 ∧ may s f k = true ∧ (pick s k).wS k = s.hS f k ∧ (pick s k).wD k = s.hD f k + s.cost f ∧ (pick s k).wH k = f ∧ (((pick s k).bS k = s.hS f k ∧ (pick s k).bD k = s.hD f k + s.cost f) ∨ ((pick s k).bS k = s.bS k ∧ (pick s k).bD k = s.bD k)) ∧
      ∀ j, j < 6 → may s j k = true → betB (s.hS j k) (s.hD j k + s.cost j) (s.hS f k) (s.hD f k + s.cost f) = false := by
  unfold Nd.pick
  rw [if_neg hm]
  rcases choose_spec s k 6 with ⟨h1, h2⟩ | ⟨f, hf, h1⟩
  · rw [h1]
    refine .inl ⟨?_, ?_, ?_, ?_, ?_, fun j hj => h2 j hj⟩ <;> simp [lay, Nd.none]
  · rw [h1]
    refine .inr ⟨f, hf.lt, hf.may, ?_, ?_, ?_, ?_, fun j hj hm => hf.best j (by omega) hj hm⟩
    · simp [lay, key]
    · simp [lay, key]
    · simp [lay, key]
    · by_cases hb : (key s k f).hop ≠ -1 ∧ betB (key s k f).seq (key s k f).dist (s.bS k) (s.bD k) = true
      · exact .inl ⟨by simp only [lay, if_pos hb, up_same]; rfl, by simp only [lay, if_pos hb, up_same]; rfl⟩
      · exact .inr ⟨by simp only [lay, if_neg hb], by simp only [lay, if_neg hb]⟩
end Go.Proofs.Ytdpgbgapelgomaa.Nt
