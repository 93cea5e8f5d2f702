/- It settles: those that cannot be reached; all of it. -/
import Derived.Test.YteedndapbfihaaaGreatB36
import Derived.Test.YteedndapbfihaaaGreatB12
import Derived.Test.YteedndapbfihaaaGreatB28
namespace Go.Proofs.YteedndapbfihaaaGreat.Nt
open Nd

theorem d_bound {C : Nat → Nat → Int} {s : Int} {d : Nat → Int} (hC : Lk.CostOK C) (hs : Lk.Sol C s d) : ∀ (m : Nat) (v : Nat), v < 6 → Lk.rank d v = m → d v < 200 → d v ≤ 15 * (m : Int) := by
  intro m
  induction m using Nat.strongRecOn with
  | _ m ih =>
    intro v hv hm h
    rcases hs.pred v hv h with h0 | ⟨a, ha, hc, hsum⟩
    · have := hs.src v hv h0; omega
    · have hr := Lk.rank_lt (d := d) (a := a) (v := v) ha (by omega)
      have := ih (Lk.rank d a) (by omega) a ha rfl (by omega)
      have := hC.hi a v ha hv
      omega
/-- Who is linked with one that cannot be reached cannot be reached. -/
theorem un_closed {C : Nat → Nat → Int} {s : Int} {d : Nat → Int} (hC : Lk.CostOK C) (hs : Lk.Sol C s d) {a b : Nat} (ha : a < 6) (hb : b < 6) (hc : 0 < C a b) (h : d b = 200) : d a = 200 := by
  have h1 := hs.hi a ha
  by_cases e : d a < 200
  · have h2 := d_bound hC hs _ a ha rfl e
    have h3 := Lk.rank_le d a ha
    have h4 := hC.hi a b ha hb
    have h5 := hs.step a b ha hb hc
    omega
  · omega
/-- How many know of one as good, or better. -/
def cnt (t : NT) (dst : Nat) (s dd : Int) : Nat := (List.range 6).countP (fun x => !(betB s dd ((t.N x).bS dst) ((t.N x).bD dst)))
theorem cnt_le (t : NT) (dst : Nat) (s dd : Int) : cnt t dst s dd ≤ 6 := by
  have := List.countP_le_length (p := fun x => !(betB s dd ((t.N x).bS dst) ((t.N x).bD dst))) (l := List.range 6)
  simpa [cnt] using this
theorem cnt_mono {t t' : NT} {dst : Nat} (h : ∀ x, x < 6 → NW (t.N x) (t'.N x) dst) (s dd : Int) : cnt t dst s dd ≤ cnt t' dst s dd := by
  refine Lk.countP_le_of _ (fun x hx hp => ?_)
  have hx6 : x < 6 := by simpa using hx
  have h1 := h x hx6
  unfold NW at h1
  simp only [Bool.not_eq_true'] at hp ⊢
  exact betB_trans hp h1
structure InvB (C : Nat → Nat → Int) (dst : Nat) (d : Nat → Int) (n r : Nat) (t : NT) : Prop where
  str : Str t n
  c : t.C = C
  heard : ∀ b f, b < 6 → f < 6 → d b = 200 → 0 < C f b → (t.N b).hD f dst < 200 → r ≤ cnt t dst ((t.N b).hS f dst) ((t.N b).hD f dst)
section
variable {C : Nat → Nat → Int} {dst : Nat} {d : Nat → Int} {n r : Nat} {t : NT} (hd : dst < 6) (hs : Lk.Sol C dst d)
theorem InvB.ok (h : InvB C dst d n r t) : Lk.CostOK C := by have := h.str.ok.cost; rw [h.c] at this; exact this
include hd hs in
/-- A live way of one that cannot be reached: many know of one as good. -/
theorem InvB.live (h : InvB C dst d n r t) {b : Nat} (hb : b < 6) (hdb : d b = 200) (hl : (t.N b).wH dst ≠ -1) : r + 1 ≤ cnt t dst ((t.N b).wS dst) ((t.N b).wD dst) := by
  have hbd : b ≠ dst := fun e => by subst e; rw [d_self hs hd] at hdb; omega
  have hme := h.str.ok.me b hb
  obtain ⟨f, a1, a2, a3, a4, a5, a6, a7, a8⟩ := ((h.str.nice b hb).bst.way dst hd (by rw [hme]; exact fun e => hbd e.symm)).via hl
  have hc : (t.N b).cost f = C f b := by rw [h.str.cost b f hb a1, h.c]; exact h.ok.sym b f hb a1
  rw [hc] at a3
  have h1 := h.heard b f hb a1 hdb a3 (by omega)
  have hlt : cnt t dst ((t.N b).hS f dst) ((t.N b).hD f dst) < cnt t dst ((t.N b).wS dst) ((t.N b).wD dst) := by
    refine Lk.countP_lt_of _ (fun x _ hp => ?_) ⟨b, by simpa using hb, ?_, ?_⟩
    · simp only [Bool.not_eq_true'] at hp ⊢
      rw [betB_no] at hp ⊢
      rw [a4, a5, hc]
      omega
    · simp only [a7, Bool.not_true]
    · simp only [a8, Bool.not_false]
  omega
include hd hs in
theorem InvB.ev (h : InvB C dst d n r t) {a b j : Nat} (ha : a < 6) (hb : b < 6) (hj : j < 6) (hcab : 0 < C a b) (hne : a ≠ b) {m : Nat} (hm : m ≤ r + 1) {c f : Nat} (hc : c < 6) (hf : f < 6) (hdc : d c = 200) (hcf : 0 < C f c)
    (hold : (t.N c).hD f dst < 200 → m ≤ cnt t dst ((t.N c).hS f dst) ((t.N c).hD f dst) ∨ (c = b ∧ f = a ∧ j = dst)) (hl : ((Nt.ev t a b j).N c).hD f dst < 200) : m ≤ cnt (Nt.ev t a b j) dst (((Nt.ev t a b j).N c).hS f dst) (((Nt.ev t a b j).N c).hD f dst) := by
  have hnw : ∀ x, x < 6 → NW (t.N x) ((Nt.ev t a b j).N x) dst := by
    intro x _
    by_cases e : x = b
    · subst e
      show NW (t.N x) (upN t.N ((x : Int)).toNat _ x) dst
      rw [Int.toNat_natCast, upN_same]
      exact NW.hearC _ _ _ _ _ _
    · rw [ev_other _ _ _ _ e]; exact NW.refl _ _
  have hway : (t.N a).wD dst < 200 → c = b → f = a → j = dst → m ≤ cnt t dst ((t.N a).wS dst) ((t.N a).wD dst) := by
    intro hlv e1 e2 _
    subst e1 e2
    have hda := un_closed h.ok hs hf hc hcf hdc
    have := h.live hd hs hf hda (fun e => by have := (h.str.nice f hf).wy.drop dst hd e; omega)
    omega
  by_cases e : c = b
  · subst e
    have hN : (Nt.ev t a c j).N c = (Nd.hearC (t.N c) ((t.N a).me : Int) (j : Int) ((t.N a).wS j) ((t.N a).wD j)).1 := by
      show upN t.N ((c : Int)).toNat _ c = _
      rw [Int.toNat_natCast, upN_same]
      rfl
    rw [hN] at hl ⊢
    rcases hearC_heard (s := t.N c) ((t.N a).me : Int) (j : Int) ((t.N a).wS j) ((t.N a).wD j) f dst with ⟨e1, e2⟩ | ⟨e1, e2, e3, e4⟩
    · by_cases ej : f = a ∧ j = dst
      · -- it was said, and is what it was
        obtain ⟨ef, ej⟩ := ej
        subst ef ej
        have hcol := ev_at h.str hf hc hj hne (by rw [h.c]; exact hcab)
        rw [hN] at hcol
        have hh : (hear (t.N c) f j ((t.N f).wS j) ((t.N f).wD j)).hS f j = (t.N f).wS j ∧ (hear (t.N c) f j ((t.N f).wS j) ((t.N f).wD j)).hD f j = (t.N f).wD j := by
          unfold hear
          have h1 := pick_heard { t.N c with hS := up2 (t.N c).hS f j ((t.N f).wS j), hD := up2 (t.N c).hD f j ((t.N f).wD j) } j
          rw [h1.1, h1.2.1]
          exact ⟨by simp [up2], by simp [up2]⟩
        rw [hcol, hh.2] at hl
        rw [hcol, hh.1, hh.2]
        exact Nat.le_trans (hway hl rfl rfl rfl) (cnt_mono hnw _ _)
      · rw [e2] at hl
        rw [e1, e2]
        rcases hold hl with h1 | ⟨_, h2, h3⟩
        · exact Nat.le_trans h1 (cnt_mono hnw _ _)
        · exact absurd ⟨h2, h3⟩ ej
    · rw [Int.toNat_natCast, h.str.ok.me a ha] at e3
      rw [Int.toNat_natCast] at e4
      subst e3 e4
      rw [e2] at hl
      rw [e1, e2]
      exact Nat.le_trans (hway hl rfl rfl rfl) (cnt_mono hnw _ _)
  · rw [ev_other _ _ _ _ e] at hl ⊢
    rcases hold hl with h1 | ⟨h2, _, _⟩
    · exact Nat.le_trans h1 (cnt_mono hnw _ _)
    · exact absurd h2 e
include hd in
theorem InvB.round (hs : Lk.Sol C dst d) (h : InvB C dst d n r t) : InvB C dst d n (r + 1) (roundK t 6) := by
  obtain ⟨h1, h2⟩ := roundK_gen (Inv := InvB C dst d n r) (Φ := fun t b f => d b = 200 → 0 < C f b → (t.N b).hD f dst < 200 → r + 1 ≤ cnt t dst ((t.N b).hS f dst) ((t.N b).hD f dst)) (C := C) (dst := dst) hd
    (fun t h => h.c) (fun a ha => h.ok.self a ha)
    (fun t a b j ha hb hj hc hne h => ⟨h.str.evT ha hb hj hne, h.c, fun c f hc' hf hdc hcf hl => h.ev hd hs ha hb hj hc hne (by omega) hc' hf hdc hcf (fun hl => .inl (h.heard c f hc' hf hdc hcf hl)) hl⟩)
    (fun t a b ha hb hc hne h hdb hcf hl => h.ev hd hs ha hb hd hc hne (Nat.le_refl _) hb ha hdb hcf (fun _ => .inr ⟨rfl, rfl, rfl⟩) hl)
    (fun t a b j f c ha hb hj hc hne hc' hf h hold hdc hcf hl => h.ev hd hs ha hb hj hc hne (Nat.le_refl _) hc' hf hdc hcf (fun hl => .inl (hold hdc hcf hl)) hl)
    h 6 (Nat.le_refl 6)
  exact ⟨h1.str, h1.c, fun b f hb hf hdb hcf hl => h2 f b hf hb hcf hdb hcf hl⟩
include hd in
theorem InvB.rounds (hs : Lk.Sol C dst d) (h : InvB C dst d n 0 t) : ∀ r, InvB C dst d n r (Nt.rounds t r)
  | 0 => h
  | r + 1 => (InvB.rounds hs h r).round hd hs
end
/-- All ages risen, no news. -/
theorem Str.tickK {t : NT} {n : Nat} (h : Str t n) : ∀ k, k ≤ 6 → Str (tickK t k) (n + k)
  | 0, _ => (h.sub (l := []) (fun _ hx => by cases hx) (by simp) : Str { t with news := [] } n)
  | k + 1, hk => by
    have h1 := Str.tickK h k (by omega)
    have h2 := h1.tickOk (a := k) (by omega)
    have e : Nt.tickOk (Nt.tickK t k) k = Nt.tickK t (k + 1) := by
      rw [← tickK_next]
      show ({ Nt.tickK t k with N := upN (Nt.tickK t k).N k (tick ((Nt.tickK t k).N k)) } : NT) = _
      have : (Nt.tickK t k).N k = t.N k := by simp [Nt.tickK]
      rw [this]
    rw [e] at h2
    exact h2
theorem tickK_N {t : NT} {b : Nat} (hb : b < 6) : (tickK t 6).N b = tick (t.N b) := by simp [tickK, hb]
theorem tick_age {t : NT} {n : Nat} (h : Str t n) {dst : Nat} (hd : dst < 6) : age (tickK t 6) dst = age t dst + 1 := by
  unfold age
  rw [tickK_N hd]
  have := tick_wSme (t.N dst)
  rwa [h.ok.me dst hd] at this
theorem base_start {t : NT} {n dst : Nat} (h : Str t n) (hd : dst < 6) {d : Nat → Int} (hs : Lk.Sol t.C dst d) : Base t.C dst (age t dst + 1) d (n + 6) (tickK t 6) := by
  have hstr := h.tickK 6 (by omega)
  have hoth : ∀ b, b < 6 → b ≠ dst → ((tickK t 6).N b).wS dst ≤ age t dst ∧ ((tickK t 6).N b).bS dst ≤ age t dst := by
    intro b hb hne
    rw [tickK_N hb]
    have h1 := h.cap b hb dst hd
    have hm : dst ≠ (t.N b).me := by rw [h.ok.me b hb]; exact fun e => hne e.symm
    refine ⟨?_, ?_⟩
    · have : (tick (t.N b)).wS dst = (t.N b).wS dst := by simp [tick, own, Nd.up, hm]
      rw [this]; exact h1.1
    · have : (tick (t.N b)).bS dst = (t.N b).bS dst := by simp [tick, own, Nd.up, hm]
      rw [this]; exact h1.2.1
  refine ⟨hstr, rfl, tick_age h hd, ⟨fun b f hb hf e => ?_, fun b hb e => ?_, fun b hb e => ?_⟩⟩
  · rw [tickK_N hb, (tick_heard (t.N b)).1] at e
    have := (h.cap b hb dst hd).2.2 f hf
    omega
  · by_cases hbd : b = dst
    · subst hbd
      have := (hstr.ok.run b hb).own.d
      rw [hstr.ok.me b hb] at this
      rw [this, d_self hs hb]
      omega
    · have := (hoth b hb hbd).1
      omega
  · by_cases hbd : b = dst
    · subst hbd
      rw [tickK_N hb, d_self hs hb]
      have : (tick (t.N b)).bD b = 0 := by
        have hm := h.ok.me b hb
        simp only [tick, own]
        rw [hm]
        simp [Nd.up]
      rw [this]
      omega
    · have := (hoth b hb hbd).2
      omega
/-- Settled, of one node. -/
structure Settled (C : Nat → Nat → Int) (dst : Nat) (q : Int) (d : Nat → Int) (n : Nat) (t : NT) : Prop where
  base : Base C dst q d n t
  right : ∀ b f, b < 6 → f < 6 → b ≠ dst → d b < 200 → 0 < C f b → d b = d f + C f b → Right t d dst q b f
  dead : ∀ b f, b < 6 → f < 6 → d b = 200 → 0 < C f b → ¬ (t.N b).hD f dst < 200
theorem rounds_C (t : NT) : ∀ r, (Nt.rounds t r).C = t.C := by
  have h1 : ∀ (l : List Nw) (t : NT), (hearL t l).C = t.C := by
    intro l
    induction l with
    | nil => intro t; rfl
    | cons x l ih => intro t; show (hearL (Nt.heard t x).1 l).C = _; rw [ih]; rfl
  have h2 : ∀ (bs : List Nat) (a : Nat) (t : NT), (tellB t a bs).C = t.C := by
    intro bs
    induction bs with
    | nil => intro a t; rfl
    | cons b bs ih => intro a t; show (tellB (hearL t _) a bs).C = _; rw [ih, h1]
  have h3 : ∀ (k : Nat) (t : NT), (roundK t k).C = t.C := by
    intro k
    induction k with
    | zero => intro t; rfl
    | succ k ih => intro t; show (tellB (roundK t k) k _).C = _; rw [h2, ih]
  intro r
  induction r with
  | zero => rfl
  | succ r ih => show (roundK (Nt.rounds t r) 6).C = _; rw [h3, ih]
theorem settled {t : NT} {n dst r : Nat} (h : Str t n) (hd : dst < 6) (hr : 7 ≤ r) : Settled t.C dst (age t dst + 1) (Lk.far t.C dst) (n + 6) (rounds (tickK t 6) r) := by
  have hs := Lk.far_sol h.ok.cost (dst : Int)
  have hb := base_start h hd hs
  have hA : InvA t.C dst (age t dst + 1) (Lk.far t.C dst) (n + 6) 0 (tickK t 6) := ⟨hb, fun b f hb' hf hbd hdb hrk hcf hsum => by
    have h0 := d_self hs hd
    have hC := h.ok.cost.lo f b hf hb'
    have := Lk.rank_lt (d := Lk.far t.C dst) (a := f) (v := b) hf (by omega)
    omega⟩
  have hB : InvB t.C dst (Lk.far t.C dst) (n + 6) 0 (tickK t 6) := ⟨hb.str, rfl, fun _ _ _ _ _ _ _ => Nat.zero_le _⟩
  have hA2 := hA.rounds hd hs r
  have hB2 := hB.rounds hd hs r
  refine ⟨hA2.base, fun b f hb' hf hbd hdb hcf hsum => hA2.right b f hb' hf hbd hdb (by have := Lk.rank_le (Lk.far t.C dst) b hb'; omega) hcf hsum, fun b f hb' hf hdb hcf hl => ?_⟩
  have h1 := hB2.heard b f hb' hf hdb hcf hl
  have h2 := cnt_le (rounds (tickK t 6) r) dst (((rounds (tickK t 6) r).N b).hS f dst) (((rounds (tickK t 6) r).N b).hD f dst)
  omega
section
variable {C : Nat → Nat → Int} {dst : Nat} {q : Int} {d : Nat → Int} {n : Nat} {t : NT}
theorem Settled.way (h : Settled C dst q d n t) (hd : dst < 6) (hs : Lk.Sol C dst d) {a : Nat} (ha : a < 6) :
    (t.N a).wD dst = d a ∧ ((t.N a).wH dst = -1 ↔ d a = 200) ∧ (d a < 200 → (t.N a).wS dst = q) := by
  have hhi := hs.hi a ha
  by_cases e : d a < 200
  · have := InvA.way (k := 6) hd hs ⟨h.base, fun b f hb hf hbd hdb _ hcf hsum => h.right b f hb hf hbd hdb hcf hsum⟩ ha e (by have := Lk.rank_le d a ha; omega)
    exact ⟨this.2.1, ⟨fun e' => absurd e' this.2.2, fun e' => by omega⟩, fun _ => this.1⟩
  · have e2 : d a = 200 := by omega
    have had : a ≠ dst := fun e' => by subst e'; rw [d_self hs hd] at e2; omega
    have hme := h.base.str.ok.me a ha
    have hH : (t.N a).wH dst = -1 := by
      apply Classical.byContradiction
      intro hl
      obtain ⟨f, a1, a2, a3, _, _, a6, _, _⟩ := ((h.base.str.nice a ha).bst.way dst hd (by rw [hme]; exact fun e => had e.symm)).via hl
      have hc : (t.N a).cost f = C f a := by rw [h.base.str.cost a f ha a1, h.base.c]; exact h.base.ok.sym a f ha a1
      rw [hc] at a3
      have hC := h.base.ok.lo f a a1 ha
      rw [hc] at a6
      exact h.dead a f ha a1 e2 a3 (by omega)
    exact ⟨by rw [(h.base.str.nice a ha).wy.drop dst hd hH, e2], ⟨fun _ => e2, fun _ => hH⟩, fun e' => absurd e' e⟩
/-- The next one on a way is the nearer one by the link. -/
theorem Settled.hop (h : Settled C dst q d n t) (hd : dst < 6) (hs : Lk.Sol C dst d) {a : Nat} (ha : a < 6) (hne : a ≠ dst) (hda : d a < 200) : ∃ f : Nat, f < 6 ∧ (t.N a).wH dst = f ∧ 0 < C a f ∧ d a = C a f + d f := by
  obtain ⟨w1, w2, w3⟩ := h.way hd hs ha
  have w3 := w3 hda
  have hme := h.base.str.ok.me a ha
  have hl : (t.N a).wH dst ≠ -1 := fun e => by have := w2.1 e; omega
  obtain ⟨f, a1, a2, a3, a4, a5, a6, a7, _⟩ := ((h.base.str.nice a ha).bst.way dst hd (by rw [hme]; exact fun e => hne e.symm)).via hl
  have hc1 : (t.N a).cost f = C a f := by rw [h.base.str.cost a f ha a1, h.base.c]
  have hsym := h.base.ok.sym a f ha a1
  rw [hc1] at a3 a5
  have h1 := h.base.lo.heard a f ha a1 (by rw [← a4]; exact w3)
  have h2 := hs.step f a a1 ha (by rw [← hsym]; exact a3)
  exact ⟨f, a1, a2, a3, by omega⟩
end
end Go.Proofs.YteedndapbfihaaaGreat.Nt
/- The ways of a settled net lead to the end, by as much as the links cost. -/
namespace Go.Proofs.YteedndapbfihaaaGreat.Nt
open Nd

theorem settleT_C (t : NT) (r : Int) : (settleT t r).C = t.C := by unfold settleT; rw [rounds_C]; rfl
theorem far_sym {C : Nat → Nat → Int} (hC : Lk.CostOK C) {a b : Nat} (ha : a < 6) (hb : b < 6) : Lk.far C (a : Int) b = Lk.far C (b : Int) a :=
  Lk.back hC (f := fun s => Lk.far C (s : Int)) (fun s _ => Lk.far_sol hC s) a b ha hb
structure HopOk (hop : Int → Int) (l : List Int) : Prop where
  step : ∀ i, i + 1 < l.length → hop (l.getD i 0) = l.getD (i + 1) 0
  stop : ∀ k, l.length = k + 1 → ¬ isN (hop (l.getD k 0)) ∨ hop (l.getD k 0) ∈ l
theorem pathF_hop {hop : Int → Int} {dst : Int} : ∀ (f : Nat) (out : List Int) (p : Int), out.length + f = 7 → out.Nodup → (∀ y ∈ out, isN y) → (∀ i, i + 1 < out.length → hop (out.getD i 0) = out.getD (i + 1) 0) →
    (∀ k, out.length = k + 1 → hop (out.getD k 0) = p) → HopOk hop (pathF hop dst f out p).1 ∧ (out ≠ [] → (pathF hop dst f out p).1.getD 0 0 = out.getD 0 0) ∧ (out = [] → isN p → (pathF hop dst f out p).1.getD 0 0 = p)
  | 0, out, p, hf, hnd, hall, _, _ => by
    have := nodup_len 6 out hnd (fun y hy => hall y hy)
    omega
  | f + 1, out, p, hf, hnd, hall, hst, hlast => by
    rw [pathF]
    split
    · rename_i hp
      split
      · rename_i hm
        refine ⟨⟨hst, fun k hk => ?_⟩, fun _ => rfl, fun h => by rw [h] at hm; cases hm⟩
        rw [hlast k hk]; exact .inr hm
      · rename_i hm
        have hr := pathF_hop (hop := hop) (dst := dst) f (out ++ [p]) (hop p) (by simp; omega)
          (by
            refine List.nodup_append.2 ⟨hnd, by simp, fun a ha b hb => ?_⟩
            simp at hb
            subst hb
            exact fun e => hm (e ▸ ha))
          (fun y hy => by
            rcases List.mem_append.1 hy with h | h
            · exact hall y h
            · simp at h; subst h; exact hp)
          (fun i hi => by
            rw [List.length_append] at hi
            simp only [List.length_cons, List.length_nil] at hi
            by_cases hie : i + 1 < out.length
            · rw [getD_left (by omega), getD_left hie]; exact hst i hie
            · have hil : out.length = i + 1 := by omega
              rw [getD_left (by omega), hlast i hil, ← hil, getD_last])
          (fun k hk => by
            simp only [List.length_append, List.length_cons, List.length_nil] at hk
            obtain rfl : k = out.length := by omega
            rw [getD_last])
        refine ⟨hr.1, fun hne => ?_, fun he _ => ?_⟩
        · rw [hr.2.1 (by simp)]
          exact getD_left (List.length_pos_iff.2 hne)
        · rw [hr.2.1 (by simp), he]
          rfl
    · rename_i hp
      refine ⟨⟨hst, fun k hk => ?_⟩, fun _ => rfl, fun _ h => absurd h hp⟩
      rw [hlast k hk]; exact .inl hp
theorem pathT_hop (t : NT) {a dst : Nat} (ha : a < 6) : HopOk (hopT t dst) (pathT t a dst).1 ∧ (pathT t a dst).1.getD 0 0 = a := by
  have h := pathF_hop (hop := hopT t dst) (dst := dst) 7 [] a rfl List.nodup_nil (fun y hy => by cases hy) (fun i hi => by simp at hi) (fun k hk => by simp at hk)
  exact ⟨h.1, h.2.2 rfl ⟨by omega, by omega⟩⟩
/-- What the links of a way cost. -/
def psum (C : Nat → Nat → Int) (l : List Int) : Nat → Int
  | 0 => 0
  | k + 1 => psum C l k + C (l.getD k 0).toNat (l.getD (k + 1) 0).toNat
section
variable {C : Nat → Nat → Int} {dst : Nat} {q : Int} {d : Nat → Int} {n : Nat} {t : NT}
/-- Each on the way: as far as is left. -/
theorem way_left (h : Settled C dst q d n t) (hd : dst < 6) (hs : Lk.Sol C dst d) {a : Nat} (ha : a < 6) (hda : d a < 200) : ∀ k, k < (pathT t a dst).1.length →
    ∃ x : Nat, x < 6 ∧ (pathT t a dst).1.getD k 0 = x ∧ d x < 200 ∧ psum C (pathT t a dst).1 k + d x = d a
  | 0, hk => ⟨a, ha, (pathT_hop t ha).2, hda, by simp [psum]⟩
  | k + 1, hk => by
    obtain ⟨x, hx, e1, hdx, hsum⟩ := way_left h hd hs ha hda k (by omega)
    obtain ⟨p, p', hp, hp', hpd, e2, e3, _, _⟩ := (pathT_ok h.base.str ha hd).ch k hk
    have hpx : p = x := by rw [e1] at e2; omega
    subst hpx
    obtain ⟨f, hf, e4, hc, hdd⟩ := h.hop hd hs hp hpd hdx
    have h1 := (pathT_hop t (dst := dst) ha).1.step k hk
    rw [e1] at h1
    have h2 : hopT t dst p = f := by
      unfold hopT
      rw [Int.toNat_natCast, wayAt, if_pos ⟨by omega, by omega⟩, Int.toNat_natCast]
      exact e4
    rw [h2] at h1
    refine ⟨f, hf, h1.symm, by omega, ?_⟩
    rw [psum, e1, ← h1, Int.toNat_natCast, Int.toNat_natCast]
    omega
theorem way_dec (h : Settled C dst q d n t) (hd : dst < 6) (hs : Lk.Sol C dst d) {a : Nat} (ha : a < 6) (hda : d a < 200) : ∀ k, k < (pathT t a dst).1.length → ∀ j, j ≤ k → ∀ x y : Nat, (pathT t a dst).1.getD j 0 = x → (pathT t a dst).1.getD k 0 = y → d y ≤ d x
  | 0, hk, j, hj, x, y, e1, e2 => by
    obtain rfl : j = 0 := by omega
    rw [e1] at e2
    have : x = y := by omega
    subst this; omega
  | k + 1, hk, j, hj, x, y, e1, e2 => by
    by_cases e : j = k + 1
    · subst e
      rw [e1] at e2
      have : x = y := by omega
      subst this; omega
    · obtain ⟨z, hz, e3, hdz, hs1⟩ := way_left h hd hs ha hda k (by omega)
      obtain ⟨z', hz', e4, _, hs2⟩ := way_left h hd hs ha hda (k + 1) hk
      have h1 := way_dec h hd hs ha hda k (by omega) j (by omega) x z e1 e3
      have h2 : z' = y := by rw [e2] at e4; omega
      subst h2
      rw [psum, e3, e4, Int.toNat_natCast, Int.toNat_natCast] at hs2
      have := h.base.ok.lo z z' hz hz'
      omega
theorem way_end (h : Settled C dst q d n t) (hd : dst < 6) (hs : Lk.Sol C dst d) {a : Nat} (ha : a < 6) (hda : d a < 200) {k : Nat} (hk : (pathT t a dst).1.length = k + 1) : (pathT t a dst).1.getD k 0 = dst ∧ psum C (pathT t a dst).1 k = d a := by
  obtain ⟨x, hx, e1, hdx, hsum⟩ := way_left h hd hs ha hda k (by omega)
  have hxd : x = dst := by
    apply Classical.byContradiction
    intro hne
    obtain ⟨f, hf, e4, hc, hdd⟩ := h.hop hd hs hx hne hdx
    have h2 : hopT t dst x = f := by
      unfold hopT
      rw [Int.toNat_natCast, wayAt, if_pos ⟨by omega, by omega⟩, Int.toNat_natCast]
      exact e4
    have h1 := (pathT_hop t (dst := dst) ha).1.stop k hk
    rw [e1, h2] at h1
    rcases h1 with h1 | h1
    · exact h1 ⟨by omega, by omega⟩
    · obtain ⟨j, hj, e5⟩ := List.mem_iff_getElem.1 h1
      have e6 : (pathT t a dst).1.getD j 0 = f := by rw [List.getD_eq_getElem?_getD, List.getElem?_eq_getElem hj, e5]; rfl
      have := way_dec h hd hs ha hda k (by omega) j (by omega) f x e6 e1
      omega
  subst hxd
  exact ⟨e1, by rw [d_self hs hd] at hsum; omega⟩
end
end Go.Proofs.YteedndapbfihaaaGreat.Nt
/- Letters: where they go by the tables of all nodes. -/
namespace Go.Proofs.YteedndapbfihaaaGreat.Wk

/-- What a link costs; 0: there is none. -/
def costN (C : Nat → Nat → Int) (a b : Int) : Int := if 0 ≤ a ∧ a < 6 ∧ 0 ≤ b ∧ b < 6 then C a.toNat b.toNat else 0
/-- A letter, from node to node: the nodes, what it costs, where it ends. -/
def tripF (h : Int → Int) (C : Nat → Nat → Int) : Nat → List Int → Int → Int → List Int × Int × Int
  | 0, out, c, _ => (out, c, -1)
  | f + 1, out, c, p => if Nt.isN p then (if p ∈ out then (out, c, -2) else if h p = p then (out ++ [p], c, p) else tripF h C f (out ++ [p]) (c + costN C p (h p)) (h p)) else (out, c, -1)
def tripT (h : Int → Int) (C : Nat → Nat → Int) (src : Int) : List Int × Int × Int := tripF h C 7 [] 0 src
/-- From node to node, to where it ends. -/
inductive Wy (h : Int → Int) : Int → List Int → Int → Prop
  | off (p : Int) : ¬ Nt.isN p → Wy h p [] (-1)
  | home (p : Int) : Nt.isN p → h p = p → Wy h p [p] p
  | go (p : Int) (l : List Int) (e : Int) : Nt.isN p → h p ≠ p → Wy h (h p) l e → Wy h p (p :: l) e
/-- What the links between cost. -/
def csum (C : Nat → Nat → Int) : List Int → Int
  | [] => 0
  | p :: l => (match l with | [] => 0 | q :: _ => costN C p q) + csum C l
theorem csum_one (C : Nat → Nat → Int) (p : Int) : csum C [p] = 0 := by simp [csum]
theorem csum_two (C : Nat → Nat → Int) (p q : Int) (l : List Int) : csum C (p :: q :: l) = costN C p q + csum C (q :: l) := rfl
theorem Wy.head {h : Int → Int} {p : Int} {l : List Int} {e : Int} (w : Wy h p l e) : (¬ Nt.isN p ∧ l = [] ∧ e = -1) ∨ (Nt.isN p ∧ ∃ m, l = p :: m) := by
  cases w with
  | off _ hp => exact .inl ⟨hp, rfl, rfl⟩
  | home _ hp _ => exact .inr ⟨hp, [], rfl⟩
  | go _ m _ hp _ _ => exact .inr ⟨hp, m, rfl⟩
theorem costN_off {C : Nat → Nat → Int} {a b : Int} (h : ¬ Nt.isN b) : costN C a b = 0 := by
  unfold costN; rw [if_neg (fun e => h ⟨e.2.2.1, e.2.2.2⟩)]
theorem trip_of {h : Int → Int} {C : Nat → Nat → Int} {p : Int} {l : List Int} {e : Int} (w : Wy h p l e) : ∀ (f : Nat) (out : List Int) (c : Int), (out ++ l).Nodup → l.length < f → tripF h C f out c p = (out ++ l, c + csum C l, e) := by
  induction w with
  | off p hp =>
    intro f out c _ hf
    obtain ⟨g, rfl⟩ : ∃ g, f = g + 1 := ⟨f - 1, by simp at hf; omega⟩
    rw [tripF, if_neg hp, List.append_nil]
    simp [csum]
  | home p hp hh =>
    intro f out c hnd hf
    obtain ⟨g, rfl⟩ : ∃ g, f = g + 1 := ⟨f - 1, by simp at hf; omega⟩
    have hm : p ∉ out := fun hm => (List.nodup_append.1 hnd).2.2 p hm p (by simp) rfl
    rw [tripF, if_pos hp, if_neg hm, if_pos hh]
    simp [csum]
  | go p l e hp hne w ih =>
    intro f out c hnd hf
    obtain ⟨g, rfl⟩ : ∃ g, f = g + 1 := ⟨f - 1, by simp at hf; omega⟩
    have hm : p ∉ out := fun hm => (List.nodup_append.1 hnd).2.2 p hm p (by simp) rfl
    rw [tripF, if_pos hp, if_neg hm, if_neg hne, ih g (out ++ [p]) _ (by simpa using hnd) (by simp at hf; omega)]
    rw [List.append_assoc]
    refine Prod.ext rfl (Prod.ext ?_ rfl)
    show c + costN C p (h p) + csum C l = c + csum C (p :: l)
    rcases w.head with ⟨h1, rfl, _⟩ | ⟨_, m, rfl⟩
    · rw [costN_off h1, csum_one]; simp [csum]
    · rw [csum_two]; omega
theorem trip_eq {h : Int → Int} {C : Nat → Nat → Int} {p : Int} {l : List Int} {e : Int} (w : Wy h p l e) (hnd : l.Nodup) (hl : l.length ≤ 6) : tripT h C p = (l, csum C l, e) := by
  unfold tripT
  rw [trip_of w 7 [] 0 (by simpa using hnd) (by omega)]
  simp
/-- From each node on its way it goes on as it would have from there. -/
theorem Wy.drop {h : Int → Int} {p : Int} {l : List Int} {e : Int} (w : Wy h p l e) : ∀ k, k < l.length → Wy h (l.getD k 0) (l.drop k) e := by
  induction w with
  | off p hp => intro k hk; simp at hk
  | home p hp hh =>
    intro k hk
    obtain rfl : k = 0 := by simp at hk; omega
    exact .home p hp hh
  | go p l e hp hne w ih =>
    intro k hk
    cases k with
    | zero => exact .go p l e hp hne w
    | succ k => exact ih k (by simp at hk; omega)
theorem Wy.congr {h h' : Int → Int} (hh : ∀ p, Nt.isN p → h p = h' p) {p : Int} {l : List Int} {e : Int} (w : Wy h p l e) : Wy h' p l e := by
  induction w with
  | off p hp => exact .off p hp
  | home p hp e => exact .home p hp (by rw [← hh p hp]; exact e)
  | go p l e hp hne w ih => exact .go p l e hp (by rw [← hh p hp]; exact hne) (by rw [← hh p hp]; exact ih)
theorem Wy.nodes {h : Int → Int} {p : Int} {l : List Int} {e : Int} (w : Wy h p l e) : ∀ x ∈ l, Nt.isN x := by
  induction w with
  | off p hp => intro x hx; cases hx
  | home p hp _ => intro x hx; rw [List.mem_singleton.1 hx]; exact hp
  | go p l e hp _ _ ih =>
    intro x hx
    rcases List.mem_cons.1 hx with rfl | hx
    · exact hp
    · exact ih x hx
theorem Wy.ends {h : Int → Int} {p : Int} {l : List Int} {e : Int} (w : Wy h p l e) : e = -1 ∨ (Nt.isN e ∧ h e = e) := by
  induction w with
  | off p hp => exact .inl rfl
  | home p hp hh => exact .inr ⟨hp, hh⟩
  | go p l e _ _ _ ih => exact ih

open Nt in
/-- Ways to a node, as letters go. -/
theorem wy_path {t : NT} {n dst a : Nat} (h : Str t n) (ha : a < 6) (hd : dst < 6) : ∃ e, Wy (hopT t dst) a (pathT t a dst).1 e ∧ (pathT t a dst).1.Nodup ∧ (pathT t a dst).1.length ≤ 6 ∧ ((e = dst ∧ (pathT t a dst).1.getD ((pathT t a dst).1.length - 1) 0 = dst) ∨ (e = -1 ∧ (pathT t a dst).1.getD ((pathT t a dst).1.length - 1) 0 ≠ dst)) := by
  have hp := pathT_ok h ha hd
  obtain ⟨hho, hst⟩ := pathT_hop t (dst := dst) ha
  generalize (pathT t a dst) = r at *
  obtain ⟨l, b⟩ := r
  have hlo := hp.lo
  have hhi := hp.hi
  have hch := hp.ch
  dsimp only at *
  clear hp
  obtain ⟨m, hm⟩ : ∃ m, l.length = m + 1 := ⟨l.length - 1, by omega⟩
  have hnd : l.Nodup := by
    rw [List.nodup_iff_pairwise_ne, List.pairwise_iff_getElem]
    intro i j hi hj hij e
    obtain ⟨x, y, e1, e2, hb⟩ := hch.far (j - i - 1) i (by omega)
    rw [show i + (j - i - 1 + 1) = j from by omega] at e2
    have e3 : l.getD i 0 = l.getD j 0 := by simp [hi, hj, e]
    have : x = y := by omega
    subst this
    exact hb.irr
  have hN : ∀ i, i < l.length → ∃ x : Nat, x < 6 ∧ l.getD i 0 = x := by
    intro i hi
    by_cases e : i + 1 < l.length
    · obtain ⟨x, y, hx, _, _, e1, _⟩ := hch i e
      exact ⟨x, hx, e1⟩
    · cases i with
      | zero => exact ⟨a, ha, hst⟩
      | succ i =>
        obtain ⟨x, y, _, hy, _, _, e1, _⟩ := hch i hi
        exact ⟨y, hy, e1⟩
  -- the last one
  obtain ⟨z, hz, ez⟩ := hN m (by omega)
  have hlast : ∃ e, Wy (hopT t dst) (l.getD m 0) (l.drop m) e ∧ ((e = dst ∧ l.getD m 0 = dst) ∨ (e = -1 ∧ l.getD m 0 ≠ dst)) := by
    have hdr : l.drop m = [l.getD m 0] := by
      rw [List.drop_eq_getElem_cons (by omega), List.drop_of_length_le (by omega)]
      simp [hm]
    rw [hdr, ez]
    by_cases hzd : z = dst
    · subst hzd
      exact ⟨z, .home _ ⟨by omega, by omega⟩ (hop_self h hd), .inl ⟨rfl, rfl⟩⟩
    · refine ⟨-1, ?_, .inr ⟨rfl, by omega⟩⟩
      have hoff : ¬ isN (hopT t dst z) := by
        intro hN'
        obtain ⟨f, hf, e1, _, hb⟩ := hop_step h hd hz hzd hN'
        have hs := hho.stop m hm
        rw [ez, e1] at hs
        rcases hs with hs | hs
        · exact hs ⟨by omega, by omega⟩
        · obtain ⟨i, hi, e5⟩ := List.mem_iff_getElem.1 hs
          have e6 : l.getD i 0 = f := by simp [hi, e5]
          by_cases him : i = m
          · subst him
            rw [ez] at e6
            have : z = f := by omega
            subst this
            exact hb.irr
          · obtain ⟨x, y, e7, e8, hb2⟩ := hch.far (m - i - 1) i (by omega)
            rw [show i + (m - i - 1 + 1) = m from by omega] at e8
            have h1 : x = f := by omega
            have h2 : y = z := by omega
            subst h1 h2
            exact (hb.trans hb2).irr
      exact .go _ [] (-1) ⟨by omega, by omega⟩ (fun e => hoff (by rw [e]; exact ⟨by omega, by omega⟩)) (.off _ hoff)
  obtain ⟨e, hw, hfin⟩ := hlast
  have hall : ∀ j, j ≤ m → Wy (hopT t dst) (l.getD (m - j) 0) (l.drop (m - j)) e := by
    intro j
    induction j with
    | zero => exact fun _ => hw
    | succ j ih =>
      intro hj
      have h1 := ih (by omega)
      have hi : m - (j + 1) + 1 < l.length := by omega
      obtain ⟨x, y, hx, hy, hxd, e1, e2, _, hb⟩ := hch (m - (j + 1)) hi
      have hs := hho.step (m - (j + 1)) hi
      rw [show m - (j + 1) + 1 = m - j from by omega] at hs e2
      rw [List.drop_eq_getElem_cons (show m - (j + 1) < l.length by omega), show m - (j + 1) + 1 = m - j from by omega]
      have e3 : l[m - (j + 1)]'(by omega) = l.getD (m - (j + 1)) 0 := by simp [show m - (j + 1) < l.length by omega]
      rw [e3]
      refine .go _ _ e (by rw [e1]; exact ⟨by omega, by omega⟩) ?_ (by rw [hs]; exact h1)
      rw [hs, e1, e2]
      intro e4
      have : x = y := by omega
      subst this
      exact hb.irr
  have h0 := hall m (Nat.le_refl _)
  rw [Nat.sub_self, hst] at h0
  refine ⟨e, h0, hnd, hhi, ?_⟩
  rw [hm, Nat.add_sub_cancel]
  exact hfin
/-- What a way costs, counted the other way. -/
theorem psum_cons (C : Nat → Nat → Int) (p : Int) (l : List Int) : ∀ k, Nt.psum C (p :: l) (k + 1) = C p.toNat (l.getD 0 0).toNat + Nt.psum C l k
  | 0 => by simp [Nt.psum]
  | k + 1 => by
    rw [Nt.psum, psum_cons C p l k, Nt.psum]
    simp only [List.getD_cons_succ]
    omega
theorem csum_psum (C : Nat → Nat → Int) : ∀ l : List Int, (∀ x ∈ l, Nt.isN x) → csum C l = Nt.psum C l (l.length - 1)
  | [], _ => rfl
  | [p], _ => by simp [csum, Nt.psum]
  | p :: q :: l, h => by
    have h1 := h p (by simp)
    have h2 := h q (by simp)
    rw [csum_two, csum_psum C (q :: l) (fun x hx => h x (List.mem_cons_of_mem _ hx))]
    show _ = Nt.psum C (p :: q :: l) (l.length + 1)
    rw [psum_cons]
    unfold costN
    rw [if_pos ⟨h1.1, h1.2, h2.1, h2.2⟩]
    rfl
/-- Where letters go next: by nodes' tables, to whose address it is. -/
def hopA (t : Nt.NT) (owner : Int) (p : Int) : Int := if owner = -1 then -1 else hopT t owner p
/-- A letter's way. -/
structure Trp (t : Nt.NT) (owner : Int) (a : Nat) (l : List Int) (e : Int) : Prop where
  wy : Wy (hopA t owner) a l e
  nd : l.Nodup
  len : l.length ≤ 6
  fin : e = -1 ∨ (e = owner ∧ Nt.isN e)
theorem wy_any {t : Nt.NT} {n a : Nat} (h : Nt.Str t n) (ha : a < 6) {owner : Int} (ho : owner = -1 ∨ Nt.isN owner) : ∃ l e, Trp t owner a l e := by
  rcases ho with rfl | ⟨d0, d1⟩
  · refine ⟨[(a : Int)], -1, .go _ [] (-1) ⟨by omega, by omega⟩ (by show (-1 : Int) ≠ a; omega) (.off _ (fun e => by have := e.1; simp [hopA] at this)), by simp, by simp, .inl rfl⟩
  · obtain ⟨dst, rfl⟩ := Int.eq_ofNat_of_zero_le d0
    obtain ⟨e, h1, h2, h3, h4⟩ := wy_path h ha (show dst < 6 by omega)
    refine ⟨_, e, h1.congr (fun p _ => by unfold hopA; rw [if_neg (by omega)]), h2, h3, ?_⟩
    rcases h4 with h4 | h4
    · exact .inr ⟨h4.1, by rw [h4.1]; exact ⟨by omega, by omega⟩⟩
    · exact .inl h4.1
theorem Trp.eq {t : Nt.NT} {owner : Int} {a : Nat} {l : List Int} {e : Int} (h : Trp t owner a l e) (C : Nat → Nat → Int) : tripT (hopA t owner) C a = (l, csum C l, e) := trip_eq h.wy h.nd h.len
theorem Trp.drop {t : Nt.NT} {owner : Int} {a : Nat} {l : List Int} {e : Int} (h : Trp t owner a l e) (C : Nat → Nat → Int) {k : Nat} (hk : k < l.length) : tripT (hopA t owner) C (l.getD k 0) = (l.drop k, csum C (l.drop k), e) :=
  trip_eq (h.wy.drop k hk) (h.nd.sublist (List.drop_sublist _ _)) (by rw [List.length_drop]; have := h.len; omega)
theorem trip_off (h : Int → Int) (C : Nat → Nat → Int) {p : Int} (hp : ¬ Nt.isN p) : tripT h C p = ([], 0, -1) := by
  unfold tripT tripF; rw [if_neg hp]
end Go.Proofs.YteedndapbfihaaaGreat.Wk
