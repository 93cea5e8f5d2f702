/- It settles: those that cannot be reached; all of it. -/
import Derived.Test.YtdpgbgapelgomaaNtMath8
import Derived.Test.YtdpgbgapelgomaaNtMath5
namespace Go.Proofs.Ytdpgbgapelgomaa.Nt
open Nd

theorem d_bound {C : Nat → Nat → Int} {s : Int} {d : Nat → Int} (hC : Lk.CostOK C) (hs : Lk.Sol C s d) : ∀ (m : Nat) (v : Nat), v < 6 → Lk.rank d v = m → d v < 200 → d v ≤ 15 * (m : Int) := by
  intro m
  induction m using Nat.strongRecOn with
  | _ m ih =>
    intro v hv hm h
    rcases hs.pred v hv h with h0 | ⟨a, ha, hc, hsum⟩
    · have := hs.src v hv h0; omega
    · have hr := Lk.rank_lt (d := d) (a := a) (v := v) ha (by omega)
      have := ih (Lk.rank d a) (by omega) a ha rfl (by omega)
      have := hC.hi a v ha hv
      omega
/-- Who is linked with one that cannot be reached cannot be reached. -/
theorem un_closed {C : Nat → Nat → Int} {s : Int} {d : Nat → Int} (hC : Lk.CostOK C) (hs : Lk.Sol C s d) {a b : Nat} (ha : a < 6) (hb : b < 6) (hc : 0 < C a b) (h : d b = 200) : d a = 200 := by
  have h1 := hs.hi a ha
  by_cases e : d a < 200
  · have h2 := d_bound hC hs _ a ha rfl e
    have h3 := Lk.rank_le d a ha
    have h4 := hC.hi a b ha hb
    have h5 := hs.step a b ha hb hc
    omega
  · omega
/-- How many know of one as good, or better. -/
def cnt (t : NT) (dst : Nat) (s dd : Int) : Nat := (List.range 6).countP (fun x => !(betB s dd ((t.N x).bS dst) ((t.N x).bD dst)))
theorem cnt_le (t : NT) (dst : Nat) (s dd : Int) : cnt t dst s dd ≤ 6 := by
  have := List.countP_le_length (p := fun x => !(betB s dd ((t.N x).bS dst) ((t.N x).bD dst))) (l := List.range 6)
  simpa [cnt] using this
theorem cnt_mono {t t' : NT} {dst : Nat} (h : ∀ x, x < 6 → NW (t.N x) (t'.N x) dst) (s dd : Int) : cnt t dst s dd ≤ cnt t' dst s dd := by
  refine Lk.countP_le_of _ (fun x hx hp => ?_)
  have hx6 : x < 6 := by simpa using hx
  have h1 := h x hx6
  unfold NW at h1
  simp only [Bool.not_eq_true'] at hp ⊢
  exact betB_trans hp h1
structure InvB (C : Nat → Nat → Int) (dst : Nat) (d : Nat → Int) (n r : Nat) (t : NT) : Prop where
  str : Str t n
  c : t.C = C
  heard : ∀ b f, b < 6 → f < 6 → d b = 200 → 0 < C f b → (t.N b).hD f dst < 200 → r ≤ cnt t dst ((t.N b).hS f dst) ((t.N b).hD f dst)
section
variable {C : Nat → Nat → Int} {dst : Nat} {d : Nat → Int} {n r : Nat} {t : NT} (hd : dst < 6) (hs : Lk.Sol C dst d)
theorem InvB.ok (h : InvB C dst d n r t) : Lk.CostOK C := by have := h.str.ok.cost; rw [h.c] at this; exact this
include hd hs in
/-- A live way of one that cannot be reached: many know of one as good. -/
theorem InvB.live (h : InvB C dst d n r t) {b : Nat} (hb : b < 6) (hdb : d b = 200) (hl : (t.N b).wH dst ≠ -1) : r + 1 ≤ cnt t dst ((t.N b).wS dst) ((t.N b).wD dst) := by
  have hbd : b ≠ dst := fun e => by subst e; rw [d_self hs hd] at hdb; omega
  have hme := h.str.ok.me b hb
  obtain ⟨f, a1, a2, a3, a4, a5, a6, a7, a8⟩ := ((h.str.nice b hb).bst.way dst hd (by rw [hme]; exact fun e => hbd e.symm)).via hl
  have hc : (t.N b).cost f = C f b := by rw [h.str.cost b f hb a1, h.c]; exact h.ok.sym b f hb a1
  rw [hc] at a3
  have h1 := h.heard b f hb a1 hdb a3 (by omega)
  have hlt : cnt t dst ((t.N b).hS f dst) ((t.N b).hD f dst) < cnt t dst ((t.N b).wS dst) ((t.N b).wD dst) := by
    refine Lk.countP_lt_of _ (fun x _ hp => ?_) ⟨b, by simpa using hb, ?_, ?_⟩
    · simp only [Bool.not_eq_true'] at hp ⊢
      rw [betB_no] at hp ⊢
      rw [a4, a5, hc]
      omega
    · simp only [a7, Bool.not_true]
    · simp only [a8, Bool.not_false]
  omega
include hd hs in
theorem InvB.ev (h : InvB C dst d n r t) {a b j : Nat} (ha : a < 6) (hb : b < 6) (hj : j < 6) (hcab : 0 < C a b) (hne : a ≠ b) {m : Nat} (hm : m ≤ r + 1) {c f : Nat} (hc : c < 6) (hf : f < 6) (hdc : d c = 200) (hcf : 0 < C f c)
    (hold : (t.N c).hD f dst < 200 → m ≤ cnt t dst ((t.N c).hS f dst) ((t.N c).hD f dst) ∨ (c = b ∧ f = a ∧ j = dst)) (hl : ((Nt.ev t a b j).N c).hD f dst < 200) : m ≤ cnt (Nt.ev t a b j) dst (((Nt.ev t a b j).N c).hS f dst) (((Nt.ev t a b j).N c).hD f dst) := by
  have hnw : ∀ x, x < 6 → NW (t.N x) ((Nt.ev t a b j).N x) dst := by
    intro x _
    by_cases e : x = b
    · subst e
      show NW (t.N x) (upN t.N ((x : Int)).toNat _ x) dst
      rw [Int.toNat_natCast, upN_same]
      exact NW.hearC _ _ _ _ _ _
    · rw [ev_other _ _ _ _ e]; exact NW.refl _ _
  have hway : (t.N a).wD dst < 200 → c = b → f = a → j = dst → m ≤ cnt t dst ((t.N a).wS dst) ((t.N a).wD dst) := by
    intro hlv e1 e2 _
    subst e1 e2
    have hda := un_closed h.ok hs hf hc hcf hdc
    have := h.live hd hs hf hda (fun e => by have := (h.str.nice f hf).wy.drop dst hd e; omega)
    omega
  by_cases e : c = b
  · subst e
    have hN : (Nt.ev t a c j).N c = (Nd.hearC (t.N c) ((t.N a).me : Int) (j : Int) ((t.N a).wS j) ((t.N a).wD j)).1 := by
      show upN t.N ((c : Int)).toNat _ c = _
      rw [Int.toNat_natCast, upN_same]
      rfl
    rw [hN] at hl ⊢
    rcases hearC_heard (s := t.N c) ((t.N a).me : Int) (j : Int) ((t.N a).wS j) ((t.N a).wD j) f dst with ⟨e1, e2⟩ | ⟨e1, e2, e3, e4⟩
    · by_cases ej : f = a ∧ j = dst
      · -- it was said, and is what it was
        obtain ⟨ef, ej⟩ := ej
        subst ef ej
        have hcol := ev_at h.str hf hc hj hne (by rw [h.c]; exact hcab)
        rw [hN] at hcol
        have hh : (hear (t.N c) f j ((t.N f).wS j) ((t.N f).wD j)).hS f j = (t.N f).wS j ∧ (hear (t.N c) f j ((t.N f).wS j) ((t.N f).wD j)).hD f j = (t.N f).wD j := by
          unfold hear
          have h1 := pick_heard { t.N c with hS := up2 (t.N c).hS f j ((t.N f).wS j), hD := up2 (t.N c).hD f j ((t.N f).wD j) } j
          rw [h1.1, h1.2.1]
          exact ⟨by simp [up2], by simp [up2]⟩
        rw [hcol, hh.2] at hl
        rw [hcol, hh.1, hh.2]
        exact Nat.le_trans (hway hl rfl rfl rfl) (cnt_mono hnw _ _)
      · rw [e2] at hl
        rw [e1, e2]
        rcases hold hl with h1 | ⟨_, h2, h3⟩
        · exact Nat.le_trans h1 (cnt_mono hnw _ _)
        · exact absurd ⟨h2, h3⟩ ej
    · rw [Int.toNat_natCast, h.str.ok.me a ha] at e3
      rw [Int.toNat_natCast] at e4
      subst e3 e4
      rw [e2] at hl
      rw [e1, e2]
      exact Nat.le_trans (hway hl rfl rfl rfl) (cnt_mono hnw _ _)
  · rw [ev_other _ _ _ _ e] at hl ⊢
    rcases hold hl with h1 | ⟨h2, _, _⟩
    · exact Nat.le_trans h1 (cnt_mono hnw _ _)
    · exact absurd h2 e
include hd in
theorem InvB.round (hs : Lk.Sol C dst d) (h : InvB C dst d n r t) : InvB C dst d n (r + 1) (roundK t 6) := by
  obtain ⟨h1, h2⟩ := roundK_gen (Inv := InvB C dst d n r) (Φ := fun t b f => d b = 200 → 0 < C f b → (t.N b).hD f dst < 200 → r + 1 ≤ cnt t dst ((t.N b).hS f dst) ((t.N b).hD f dst)) (C := C) (dst := dst) hd
    (fun t h => h.c) (fun a ha => h.ok.self a ha)
    (fun t a b j ha hb hj hc hne h => ⟨h.str.evT ha hb hj hne, h.c, fun c f hc' hf hdc hcf hl => h.ev hd hs ha hb hj hc hne (by omega) hc' hf hdc hcf (fun hl => .inl (h.heard c f hc' hf hdc hcf hl)) hl⟩)
    (fun t a b ha hb hc hne h hdb hcf hl => h.ev hd hs ha hb hd hc hne (Nat.le_refl _) hb ha hdb hcf (fun _ => .inr ⟨rfl, rfl, rfl⟩) hl)
    (fun t a b j f c ha hb hj hc hne hc' hf h hold hdc hcf hl => h.ev hd hs ha hb hj hc hne (Nat.le_refl _) hc' hf hdc hcf (fun hl => .inl (hold hdc hcf hl)) hl)
    h 6 (Nat.le_refl 6)
  exact ⟨h1.str, h1.c, fun b f hb hf hdb hcf hl => h2 f b hf hb hcf hdb hcf hl⟩
include hd in
theorem InvB.rounds (hs : Lk.Sol C dst d) (h : InvB C dst d n 0 t) : ∀ r, InvB C dst d n r (Nt.rounds t r)
  | 0 => h
  | r + 1 => (InvB.rounds hs h r).round hd hs
end
/-- All ages risen, no news. -/
theorem Str.tickK {t : NT} {n : Nat} (h : Str t n) : ∀ k, k ≤ 6 → Str (tickK t k) (n + k)
  | 0, _ => (h.sub (l := []) (fun _ hx => by cases hx) (by simp) : Str { t with news := [] } n)
  | k + 1, hk => by
    have h1 := Str.tickK h k (by omega)
    have h2 := h1.tickOk (a := k) (by omega)
    have e : Nt.tickOk (Nt.tickK t k) k = Nt.tickK t (k + 1) := by
      rw [← tickK_next]
      show ({ Nt.tickK t k with N := upN (Nt.tickK t k).N k (tick ((Nt.tickK t k).N k)) } : NT) = _
      have : (Nt.tickK t k).N k = t.N k := by simp [Nt.tickK]
      rw [this]
    rw [e] at h2
    exact h2
theorem tickK_N {t : NT} {b : Nat} (hb : b < 6) : (tickK t 6).N b = tick (t.N b) := by simp [tickK, hb]
theorem tick_age {t : NT} {n : Nat} (h : Str t n) {dst : Nat} (hd : dst < 6) : age (tickK t 6) dst = age t dst + 1 := by
  unfold age
  rw [tickK_N hd]
  have := tick_wSme (t.N dst)
  rwa [h.ok.me dst hd] at this
theorem base_start {t : NT} {n dst : Nat} (h : Str t n) (hd : dst < 6) {d : Nat → Int} (hs : Lk.Sol t.C dst d) : Base t.C dst (age t dst + 1) d (n + 6) (tickK t 6) := by
  have hstr := h.tickK 6 (by omega)
  have hoth : ∀ b, b < 6 → b ≠ dst → ((tickK t 6).N b).wS dst ≤ age t dst ∧ ((tickK t 6).N b).bS dst ≤ age t dst := by
    intro b hb hne
    rw [tickK_N hb]
    have h1 := h.cap b hb dst hd
    have hm : dst ≠ (t.N b).me := by rw [h.ok.me b hb]; exact fun e => hne e.symm
    refine ⟨?_, ?_⟩
    · have : (tick (t.N b)).wS dst = (t.N b).wS dst := by simp [tick, own, up, hm]
      rw [this]; exact h1.1
    · have : (tick (t.N b)).bS dst = (t.N b).bS dst := by simp [tick, own, up, hm]
      rw [this]; exact h1.2.1
  refine ⟨hstr, rfl, tick_age h hd, ⟨fun b f hb hf e => ?_, fun b hb e => ?_, fun b hb e => ?_⟩⟩
  · rw [tickK_N hb, (tick_heard (t.N b)).1] at e
    have := (h.cap b hb dst hd).2.2 f hf
    omega
  · by_cases hbd : b = dst
    · subst hbd
      have := (hstr.ok.run b hb).own.d
      rw [hstr.ok.me b hb] at this
      rw [this, d_self hs hb]
      omega
    · have := (hoth b hb hbd).1
      omega
  · by_cases hbd : b = dst
    · subst hbd
      rw [tickK_N hb, d_self hs hb]
      have : (tick (t.N b)).bD b = 0 := by
        have hm := h.ok.me b hb
        simp only [tick, own]
        rw [hm]
        simp [up]
      rw [this]
      omega
    · have := (hoth b hb hbd).2
      omega
/-- Settled, of one node. -/
structure Settled (C : Nat → Nat → Int) (dst : Nat) (q : Int) (d : Nat → Int) (n : Nat) (t : NT) : Prop where
  base : Base C dst q d n t
  right : ∀ b f, b < 6 → f < 6 → b ≠ dst → d b < 200 → 0 < C f b → d b = d f + C f b → Right t d dst q b f
  dead : ∀ b f, b < 6 → f < 6 → d b = 200 → 0 < C f b → ¬ (t.N b).hD f dst < 200
theorem rounds_C (t : NT) : ∀ r, (Nt.rounds t r).C = t.C := by
  have h1 : ∀ (l : List Nw) (t : NT), (hearL t l).C = t.C := by
    intro l
    induction l with
    | nil => intro t; rfl
    | cons x l ih => intro t; show (hearL (Nt.heard t x).1 l).C = _; rw [ih]; rfl
  have h2 : ∀ (bs : List Nat) (a : Nat) (t : NT), (tellB t a bs).C = t.C := by
    intro bs
    induction bs with
    | nil => intro a t; rfl
    | cons b bs ih => intro a t; show (tellB (hearL t _) a bs).C = _; rw [ih, h1]
  have h3 : ∀ (k : Nat) (t : NT), (roundK t k).C = t.C := by
    intro k
    induction k with
    | zero => intro t; rfl
    | succ k ih => intro t; show (tellB (roundK t k) k _).C = _; rw [h2, ih]
  intro r
  induction r with
  | zero => rfl
  | succ r ih => show (roundK (Nt.rounds t r) 6).C = _; rw [h3, ih]
theorem settled {t : NT} {n dst r : Nat} (h : Str t n) (hd : dst < 6) (hr : 7 ≤ r) : Settled t.C dst (age t dst + 1) (Lk.far t.C dst) (n + 6) (rounds (tickK t 6) r) := by
  have hs := Lk.far_sol h.ok.cost (dst : Int)
  have hb := base_start h hd hs
  have hA : InvA t.C dst (age t dst + 1) (Lk.far t.C dst) (n + 6) 0 (tickK t 6) := ⟨hb, fun b f hb' hf hbd hdb hrk hcf hsum => by
    have h0 := d_self hs hd
    have hC := h.ok.cost.lo f b hf hb'
    have := Lk.rank_lt (d := Lk.far t.C dst) (a := f) (v := b) hf (by omega)
    omega⟩
  have hB : InvB t.C dst (Lk.far t.C dst) (n + 6) 0 (tickK t 6) := ⟨hb.str, rfl, fun _ _ _ _ _ _ _ => Nat.zero_le _⟩
  have hA2 := hA.rounds hd hs r
  have hB2 := hB.rounds hd hs r
  refine ⟨hA2.base, fun b f hb' hf hbd hdb hcf hsum => hA2.right b f hb' hf hbd hdb (by have := Lk.rank_le (Lk.far t.C dst) b hb'; omega) hcf hsum, fun b f hb' hf hdb hcf hl => ?_⟩
  have h1 := hB2.heard b f hb' hf hdb hcf hl
  have h2 := cnt_le (rounds (tickK t 6) r) dst (((rounds (tickK t 6) r).N b).hS f dst) (((rounds (tickK t 6) r).N b).hD f dst)
  omega
section
variable {C : Nat → Nat → Int} {dst : Nat} {q : Int} {d : Nat → Int} {n : Nat} {t : NT}
theorem Settled.way (h : Settled C dst q d n t) (hd : dst < 6) (hs : Lk.Sol C dst d) {a : Nat} (ha : a < 6) :
    (t.N a).wD dst = d a ∧ ((t.N a).wH dst = -1 ↔ d a = 200) ∧ (d a < 200 → (t.N a).wS dst = q) := by
  have hhi := hs.hi a ha
  by_cases e : d a < 200
  · have := InvA.way (k := 6) hd hs ⟨h.base, fun b f hb hf hbd hdb _ hcf hsum => h.right b f hb hf hbd hdb hcf hsum⟩ ha e (by have := Lk.rank_le d a ha; omega)
    exact ⟨this.2.1, ⟨fun e' => absurd e' this.2.2, fun e' => by omega⟩, fun _ => this.1⟩
  · have e2 : d a = 200 := by omega
    have had : a ≠ dst := fun e' => by subst e'; rw [d_self hs hd] at e2; omega
    have hme := h.base.str.ok.me a ha
    have hH : (t.N a).wH dst = -1 := by
      apply Classical.byContradiction
      intro hl
      obtain ⟨f, a1, a2, a3, _, _, a6, _, _⟩ := ((h.base.str.nice a ha).bst.way dst hd (by rw [hme]; exact fun e => had e.symm)).via hl
      have hc : (t.N a).cost f = C f a := by rw [h.base.str.cost a f ha a1, h.base.c]; exact h.base.ok.sym a f ha a1
      rw [hc] at a3
      have hC := h.base.ok.lo f a a1 ha
      rw [hc] at a6
      exact h.dead a f ha a1 e2 a3 (by omega)
    exact ⟨by rw [(h.base.str.nice a ha).wy.drop dst hd hH, e2], ⟨fun _ => e2, fun _ => hH⟩, fun e' => absurd e' e⟩
/-- The next one on a way is the nearer one by the link. -/
theorem Settled.hop (h : Settled C dst q d n t) (hd : dst < 6) (hs : Lk.Sol C dst d) {a : Nat} (ha : a < 6) (hne : a ≠ dst) (hda : d a < 200) : ∃ f : Nat, f < 6 ∧ (t.N a).wH dst = f ∧ 0 < C a f ∧ d a = C a f + d f := by
  obtain ⟨w1, w2, w3⟩ := h.way hd hs ha
  have w3 := w3 hda
  have hme := h.base.str.ok.me a ha
  have hl : (t.N a).wH dst ≠ -1 := fun e => by have := w2.1 e; omega
  obtain ⟨f, a1, a2, a3, a4, a5, a6, a7, _⟩ := ((h.base.str.nice a ha).bst.way dst hd (by rw [hme]; exact fun e => hne e.symm)).via hl
  have hc1 : (t.N a).cost f = C a f := by rw [h.base.str.cost a f ha a1, h.base.c]
  have hsym := h.base.ok.sym a f ha a1
  rw [hc1] at a3 a5
  have h1 := h.base.lo.heard a f ha a1 (by rw [← a4]; exact w3)
  have h2 := hs.step f a a1 ha (by rw [← hsym]; exact a3)
  exact ⟨f, a1, a2, a3, by omega⟩
end
end Go.Proofs.Ytdpgbgapelgomaa.Nt
