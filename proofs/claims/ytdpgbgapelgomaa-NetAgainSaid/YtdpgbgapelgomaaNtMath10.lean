/- The ways of a settled net lead to the end, by as much as the links cost. -/
import Derived.Test.YtdpgbgapelgomaaNtMath9
namespace Go.Proofs.Ytdpgbgapelgomaa.Nt
open Nd

theorem hearL_news : ∀ (l : List Nw) (t : NT), (hearL t l).news = t.news
  | [], _ => rfl
  | x :: l, t => by show (hearL (Nt.heard t x).1 l).news = _; rw [hearL_news l]; rfl
theorem tellB_news (a : Nat) : ∀ (bs : List Nat) (t : NT), (tellB t a bs).news = t.news
  | [], _ => rfl
  | b :: bs, t => by show (tellB (hearL t _) a bs).news = _; rw [tellB_news a bs, hearL_news]
theorem roundK_news (t : NT) : ∀ k, (roundK t k).news = t.news
  | 0 => rfl
  | k + 1 => by show (tellB (roundK t k) k _).news = _; rw [tellB_news, roundK_news t k]
theorem rounds_news (t : NT) : ∀ r, (Nt.rounds t r).news = t.news
  | 0 => rfl
  | r + 1 => by show (roundK (Nt.rounds t r) 6).news = _; rw [roundK_news, rounds_news t r]
theorem settleT_news (t : NT) (r : Int) : (settleT t r).news = [] := by unfold settleT; rw [rounds_news]; rfl
theorem settleT_C (t : NT) (r : Int) : (settleT t r).C = t.C := by unfold settleT; rw [rounds_C]; rfl
theorem far_sym {C : Nat → Nat → Int} (hC : Lk.CostOK C) {a b : Nat} (ha : a < 6) (hb : b < 6) : Lk.far C (a : Int) b = Lk.far C (b : Int) a :=
  Lk.back hC (f := fun s => Lk.far C (s : Int)) (fun s _ => Lk.far_sol hC s) a b ha hb
structure HopOk (hop : Int → Int) (l : List Int) : Prop where
  step : ∀ i, i + 1 < l.length → hop (l.getD i 0) = l.getD (i + 1) 0
  stop : ∀ k, l.length = k + 1 → ¬ isN (hop (l.getD k 0)) ∨ hop (l.getD k 0) ∈ l
theorem pathF_hop {hop : Int → Int} {dst : Int} : ∀ (f : Nat) (out : List Int) (p : Int), out.length + f = 7 → out.Nodup → (∀ y ∈ out, isN y) → (∀ i, i + 1 < out.length → hop (out.getD i 0) = out.getD (i + 1) 0) →
    (∀ k, out.length = k + 1 → hop (out.getD k 0) = p) → HopOk hop (pathF hop dst f out p).1 ∧ (out ≠ [] → (pathF hop dst f out p).1.getD 0 0 = out.getD 0 0) ∧ (out = [] → isN p → (pathF hop dst f out p).1.getD 0 0 = p)
  | 0, out, p, hf, hnd, hall, _, _ => by
    have := nodup_len 6 out hnd (fun y hy => hall y hy)
    omega
  | f + 1, out, p, hf, hnd, hall, hst, hlast => by
    rw [pathF]
    split
    · rename_i hp
      split
      · rename_i hm
        refine ⟨⟨hst, fun k hk => ?_⟩, fun _ => rfl, fun h => by rw [h] at hm; cases hm⟩
        rw [hlast k hk]; exact .inr hm
      · rename_i hm
        have hr := pathF_hop (hop := hop) (dst := dst) f (out ++ [p]) (hop p) (by simp; omega)
          (by
            refine List.nodup_append.2 ⟨hnd, by simp, fun a ha b hb => ?_⟩
            simp at hb
            subst hb
            exact fun e => hm (e ▸ ha))
          (fun y hy => by
            rcases List.mem_append.1 hy with h | h
            · exact hall y h
            · simp at h; subst h; exact hp)
          (fun i hi => by
            rw [List.length_append] at hi
            simp only [List.length_cons, List.length_nil] at hi
            by_cases hie : i + 1 < out.length
            · rw [getD_left (by omega), getD_left hie]; exact hst i hie
            · have hil : out.length = i + 1 := by omega
              rw [getD_left (by omega), hlast i hil, ← hil, getD_last])
          (fun k hk => by
            simp only [List.length_append, List.length_cons, List.length_nil] at hk
            obtain rfl : k = out.length := by omega
            rw [getD_last])
        refine ⟨hr.1, fun hne => ?_, fun he _ => ?_⟩
        · rw [hr.2.1 (by simp)]
          exact getD_left (List.length_pos_iff.2 hne)
        · rw [hr.2.1 (by simp), he]
          rfl
    · rename_i hp
      refine ⟨⟨hst, fun k hk => ?_⟩, fun _ => rfl, fun _ h => absurd h hp⟩
      rw [hlast k hk]; exact .inl hp
theorem pathT_hop (t : NT) {a dst : Nat} (ha : a < 6) : HopOk (hopT t dst) (pathT t a dst).1 ∧ (pathT t a dst).1.getD 0 0 = a := by
  have h := pathF_hop (hop := hopT t dst) (dst := dst) 7 [] a rfl List.nodup_nil (fun y hy => by cases hy) (fun i hi => by simp at hi) (fun k hk => by simp at hk)
  exact ⟨h.1, h.2.2 rfl ⟨by omega, by omega⟩⟩
/-- What the links of a way cost. -/
def psum (C : Nat → Nat → Int) (l : List Int) : Nat → Int
  | 0 => 0
  | k + 1 => psum C l k + C (l.getD k 0).toNat (l.getD (k + 1) 0).toNat
theorem psum_bd {C : Nat → Nat → Int} (hC : Lk.CostOK C) {t : NT} {dst : Nat} {l : List Int} (hch : Chain t dst l) : ∀ k, k < l.length → 0 ≤ psum C l k ∧ psum C l k ≤ 15 * (k : Int)
  | 0, _ => by simp [psum]
  | k + 1, hk => by
    obtain ⟨h1, h2⟩ := psum_bd hC hch k (by omega)
    obtain ⟨a, b, ha, hb, _, e1, e2, _⟩ := hch k hk
    rw [psum, e1, e2, Int.toNat_natCast, Int.toNat_natCast]
    have := hC.lo a b ha hb
    have := hC.hi a b ha hb
    omega
section
variable {C : Nat → Nat → Int} {dst : Nat} {q : Int} {d : Nat → Int} {n : Nat} {t : NT}
/-- Each on the way: as far as is left. -/
theorem way_left (h : Settled C dst q d n t) (hd : dst < 6) (hs : Lk.Sol C dst d) {a : Nat} (ha : a < 6) (hda : d a < 200) : ∀ k, k < (pathT t a dst).1.length →
    ∃ x : Nat, x < 6 ∧ (pathT t a dst).1.getD k 0 = x ∧ d x < 200 ∧ psum C (pathT t a dst).1 k + d x = d a
  | 0, hk => ⟨a, ha, (pathT_hop t ha).2, hda, by simp [psum]⟩
  | k + 1, hk => by
    obtain ⟨x, hx, e1, hdx, hsum⟩ := way_left h hd hs ha hda k (by omega)
    obtain ⟨p, p', hp, hp', hpd, e2, e3, _, _⟩ := (pathT_ok h.base.str ha hd).ch k hk
    have hpx : p = x := by rw [e1] at e2; omega
    subst hpx
    obtain ⟨f, hf, e4, hc, hdd⟩ := h.hop hd hs hp hpd hdx
    have h1 := (pathT_hop t (dst := dst) ha).1.step k hk
    rw [e1] at h1
    have h2 : hopT t dst p = f := by
      unfold hopT
      rw [Int.toNat_natCast, wayAt, if_pos ⟨by omega, by omega⟩, Int.toNat_natCast]
      exact e4
    rw [h2] at h1
    refine ⟨f, hf, h1.symm, by omega, ?_⟩
    rw [psum, e1, ← h1, Int.toNat_natCast, Int.toNat_natCast]
    omega
theorem way_dec (h : Settled C dst q d n t) (hd : dst < 6) (hs : Lk.Sol C dst d) {a : Nat} (ha : a < 6) (hda : d a < 200) : ∀ k, k < (pathT t a dst).1.length → ∀ j, j ≤ k → ∀ x y : Nat, (pathT t a dst).1.getD j 0 = x → (pathT t a dst).1.getD k 0 = y → d y ≤ d x
  | 0, hk, j, hj, x, y, e1, e2 => by
    obtain rfl : j = 0 := by omega
    rw [e1] at e2
    have : x = y := by omega
    subst this; omega
  | k + 1, hk, j, hj, x, y, e1, e2 => by
    by_cases e : j = k + 1
    · subst e
      rw [e1] at e2
      have : x = y := by omega
      subst this; omega
    · obtain ⟨z, hz, e3, hdz, hs1⟩ := way_left h hd hs ha hda k (by omega)
      obtain ⟨z', hz', e4, _, hs2⟩ := way_left h hd hs ha hda (k + 1) hk
      have h1 := way_dec h hd hs ha hda k (by omega) j (by omega) x z e1 e3
      have h2 : z' = y := by rw [e2] at e4; omega
      subst h2
      rw [psum, e3, e4, Int.toNat_natCast, Int.toNat_natCast] at hs2
      have := h.base.ok.lo z z' hz hz'
      omega
theorem way_end (h : Settled C dst q d n t) (hd : dst < 6) (hs : Lk.Sol C dst d) {a : Nat} (ha : a < 6) (hda : d a < 200) {k : Nat} (hk : (pathT t a dst).1.length = k + 1) : (pathT t a dst).1.getD k 0 = dst ∧ psum C (pathT t a dst).1 k = d a := by
  obtain ⟨x, hx, e1, hdx, hsum⟩ := way_left h hd hs ha hda k (by omega)
  have hxd : x = dst := by
    apply Classical.byContradiction
    intro hne
    obtain ⟨f, hf, e4, hc, hdd⟩ := h.hop hd hs hx hne hdx
    have h2 : hopT t dst x = f := by
      unfold hopT
      rw [Int.toNat_natCast, wayAt, if_pos ⟨by omega, by omega⟩, Int.toNat_natCast]
      exact e4
    have h1 := (pathT_hop t (dst := dst) ha).1.stop k hk
    rw [e1, h2] at h1
    rcases h1 with h1 | h1
    · exact h1 ⟨by omega, by omega⟩
    · obtain ⟨j, hj, e5⟩ := List.mem_iff_getElem.1 h1
      have e6 : (pathT t a dst).1.getD j 0 = f := by rw [List.getD_eq_getElem?_getD, List.getElem?_eq_getElem hj, e5]; rfl
      have := way_dec h hd hs ha hda k (by omega) j (by omega) f x e6 e1
      omega
  subst hxd
  exact ⟨e1, by rw [d_self hs hd] at hsum; omega⟩
end
end Go.Proofs.Ytdpgbgapelgomaa.Nt
