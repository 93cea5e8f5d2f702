/- It settles: those that can be reached. -/
import Derived.Test.YtdpgbgapelgomaaNtMath7
namespace Go.Proofs.Ytdpgbgapelgomaa.Nt
open Nd

/-- No fresh way is too short. -/
structure Lo (t : NT) (d : Nat → Int) (dst : Nat) (q : Int) : Prop where
  heard : ∀ b f, b < 6 → f < 6 → (t.N b).hS f dst = q → d f ≤ (t.N b).hD f dst
  way : ∀ b, b < 6 → (t.N b).wS dst = q → d b ≤ (t.N b).wD dst
  best : ∀ b, b < 6 → (t.N b).bS dst = q → d b ≤ (t.N b).bD dst
structure Right (t : NT) (d : Nat → Int) (dst : Nat) (q : Int) (b f : Nat) : Prop where
  hS : (t.N b).hS f dst = q
  hD : (t.N b).hD f dst = d f
  wS : (t.N b).wS dst = q
  wD : (t.N b).wD dst = d b
  wH : (t.N b).wH dst ≠ -1
structure Base (C : Nat → Nat → Int) (dst : Nat) (q : Int) (d : Nat → Int) (n : Nat) (t : NT) : Prop where
  str : Str t n
  c : t.C = C
  age : age t dst = q
  lo : Lo t d dst q
structure InvA (C : Nat → Nat → Int) (dst : Nat) (q : Int) (d : Nat → Int) (n k : Nat) (t : NT) : Prop where
  base : Base C dst q d n t
  right : ∀ b f, b < 6 → f < 6 → b ≠ dst → d b < 200 → Lk.rank d b ≤ k → 0 < C f b → d b = d f + C f b → Right t d dst q b f
section
variable {C : Nat → Nat → Int} {dst : Nat} {q : Int} {d : Nat → Int} {n k : Nat} {t : NT} (hd : dst < 6) (hs : Lk.Sol C dst d)
theorem Base.ok (h : Base C dst q d n t) : Lk.CostOK C := by have := h.str.ok.cost; rw [h.c] at this; exact this
include hs in
theorem d_self (hd : dst < 6) : d dst = 0 := hs.src dst hd rfl
include hd hs in
/-- The way of one that is right already. -/
theorem InvA.way (h : InvA C dst q d n k t) {a : Nat} (ha : a < 6) (hda : d a < 200) (hr : Lk.rank d a ≤ k) : (t.N a).wS dst = q ∧ (t.N a).wD dst = d a ∧ (t.N a).wH dst ≠ -1 := by
  by_cases e : a = dst
  · subst e
    have h1 := (h.base.str.ok.run a ha).own
    have h2 := h1.d
    have h3 := h1.h
    rw [h.base.str.ok.me a ha] at h2 h3
    exact ⟨h.base.age, by rw [h2, d_self hs ha], by rw [h3]; omega⟩
  · rcases hs.pred a ha hda with h0 | ⟨f, hf, hc, hsum⟩
    · exact absurd (by omega) e
    · have := h.right a f ha hf e hda hr hc hsum
      exact ⟨this.wS, this.wD, this.wH⟩
/-- A choice among which the right one is, is right. -/
theorem pick_right {s : NS} (hm : dst ≠ s.me) {b f0 : Nat} (hf0 : f0 < 6) (hcost : ∀ j, j < 6 → s.cost j = C j b) (hb : b < 6)
    (hcap : ∀ j, j < 6 → s.hS j dst ≤ q) (hbs : s.bS dst ≤ q) (hlo : ∀ j, j < 6 → s.hS j dst = q → d j ≤ s.hD j dst) (hbest : s.bS dst = q → d b ≤ s.bD dst)
    (hs : Lk.Sol C dst d) (hdb : d b < 200) (hc : 0 < C f0 b) (hsum : d b = d f0 + C f0 b) (h1 : s.hS f0 dst = q) (h2 : s.hD f0 dst = d f0) :
    (pick s dst).wS dst = q ∧ (pick s dst).wD dst = d b ∧ (pick s dst).wH dst ≠ -1 := by
  have hmay : may s f0 dst = true := by
    simp only [may, Bool.and_eq_true, decide_eq_true_eq]
    rw [hcost f0 hf0, h1, h2]
    refine ⟨⟨hc, by omega⟩, ?_⟩
    rw [betB_iff]
    by_cases e : s.bS dst = q
    · have := hbest e; right; exact ⟨e.symm, by omega⟩
    · left; omega
  rcases pick_cases hm with ⟨_, _, _, _, _, hno⟩ | ⟨f, hf, hmf, e1, e2, e3, _, hbst⟩
  · rw [hno f0 hf0] at hmay; cases hmay
  · have k1 := hbst f0 hf0 hmay
    rw [betB_no, hcost f0 hf0, hcost f hf, h1, h2] at k1
    have k2 := hcap f hf
    have hfq : s.hS f dst = q := by omega
    have k3 := hlo f hf hfq
    simp only [may, Bool.and_eq_true, decide_eq_true_eq] at hmf
    rw [hcost f hf] at hmf
    have k4 := hs.step f b hf hb hmf.1.1
    rw [e1, e2, e3, hcost f hf]
    exact ⟨hfq, by omega, by omega⟩
/-- One hears one news. -/
structure Hr (t t' : NT) (a b j : Nat) (qq dd : Int) (n : Nat) : Prop where
  at_ : t'.N b = hear (t.N b) a j qq dd
  other : ∀ c, c ≠ b → t'.N c = t.N c
  c : t'.C = t.C
  str : Str t' n
theorem Base.hrEv (h : Base C dst q d n t) {a b j : Nat} (ha : a < 6) (hb : b < 6) (hj : j < 6) (hcab : 0 < C a b) (hne : a ≠ b) : Hr t (ev t a b j) a b j ((t.N a).wS j) ((t.N a).wD j) n :=
  ⟨ev_at h.str ha hb hj hne (by rw [h.c]; exact hcab), fun _ hc => ev_other _ _ _ _ hc, rfl, h.str.evT ha hb hj hne⟩
theorem Base.hr (hs : Lk.Sol C dst d) (h : Base C dst q d n t) {t' : NT} {n' a b j : Nat} {qq dd : Int} (hx : Hr t t' a b j qq dd n') (hb : b < 6) (hj : j < 6) (hcond : j = dst → qq = q → d a ≤ dd) : Base C dst q d n' t' := by
  have hstr := hx.str
  have hat := hx.at_
  have hmb := h.str.ok.me b hb
  have hcost : ∀ f, f < 6 → (t.N b).cost f = C f b := fun f hf => by rw [h.str.cost b f hb hf, h.c]; exact h.ok.sym b f hb hf
  have hage : Nt.age t' dst = q := by
    rw [← h.age]
    unfold Nt.age
    by_cases e : dst = b
    · subst e
      rw [hat]
      have := hear_wSme (t.N dst) a j qq dd
      rwa [hmb] at this
    · rw [hx.other _ e]
  refine ⟨hstr, hx.c.trans h.c, hage, ?_⟩
  by_cases e : dst = j
  · subst e
    -- column of its own
    have hheard : ∀ f, f < 6 → (t'.N b).hS f dst = q → d f ≤ (t'.N b).hD f dst := by
      intro f hf
      rw [hat]
      unfold hear
      have h1 := pick_heard { t.N b with hS := up2 (t.N b).hS a dst qq, hD := up2 (t.N b).hD a dst dd } dst
      rw [h1.1, h1.2.1]
      simp only [up2]
      by_cases e : f = a
      · subst e; rw [if_pos ⟨rfl, trivial⟩, if_pos ⟨rfl, trivial⟩]; exact hcond rfl
      · rw [if_neg (fun h => e h.1), if_neg (fun h => e h.1)]; exact h.lo.heard b f hb hf
    by_cases hbd : b = dst
    · have hp : ∀ s : NS, s.me = dst → pick s dst = s := fun s hs => by unfold Nd.pick; rw [if_pos hs.symm]
      have hN : t'.N b = { t.N b with hS := up2 (t.N b).hS a dst qq, hD := up2 (t.N b).hD a dst dd } := by
        rw [hat]; unfold hear; exact hp _ (by show (t.N b).me = dst; rw [hmb]; exact hbd)
      refine ⟨fun c f hc hf => ?_, fun c hc => ?_, fun c hc => ?_⟩
      · by_cases e : c = b
        · subst e; exact hheard f hf
        · rw [hx.other _ e]; exact h.lo.heard c f hc hf
      · by_cases e : c = b
        · subst e; rw [hN]; exact h.lo.way c hc
        · rw [hx.other _ e]; exact h.lo.way c hc
      · by_cases e : c = b
        · subst e; rw [hN]; exact h.lo.best c hc
        · rw [hx.other _ e]; exact h.lo.best c hc
    · have hm : dst ≠ ({ t.N b with hS := up2 (t.N b).hS a dst qq, hD := up2 (t.N b).hD a dst dd } : NS).me := by
        show dst ≠ (t.N b).me
        rw [hmb]; exact fun e => hbd e.symm
      have hxx : ∀ f, f < 6 → up2 (t.N b).hS a dst qq f dst = q → d f ≤ up2 (t.N b).hD a dst dd f dst := by
        intro f hf
        simp only [up2]
        by_cases e : f = a
        · subst e; rw [if_pos ⟨rfl, trivial⟩, if_pos ⟨rfl, trivial⟩]; exact hcond rfl
        · rw [if_neg (fun h => e h.1), if_neg (fun h => e h.1)]; exact h.lo.heard b f hb hf
      have hwb : ((t'.N b).wS dst = q → d b ≤ (t'.N b).wD dst) ∧ ((t'.N b).bS dst = q → d b ≤ (t'.N b).bD dst) := by
        rw [hat]
        unfold hear
        have hbb := h.lo.best b hb
        have hhi := hs.hi b hb
        rcases pick_cases hm with ⟨e1, e2, _, e4, e5, _⟩ | ⟨f, hf, hmf, e1, e2, _, e4, _⟩
        · rw [e1, e2, e4, e5]
          exact ⟨fun _ => hhi, hbb⟩
        · simp only [may, Bool.and_eq_true, decide_eq_true_eq] at hmf
          have hcf : 0 < C f b := by rw [← hcost f hf]; exact hmf.1.1
          have hst := hs.step f b hf hb hcf
          have hval : up2 (t.N b).hS a dst qq f dst = q → d b ≤ up2 (t.N b).hD a dst dd f dst + (t.N b).cost f := fun e => by
            have := hxx f hf e
            rw [hcost f hf]; omega
          rw [e1, e2]
          refine ⟨hval, ?_⟩
          rcases e4 with ⟨e4, e5⟩ | ⟨e4, e5⟩
          · rw [e4, e5]; exact hval
          · rw [e4, e5]; exact hbb
      refine ⟨fun c f hc hf => ?_, fun c hc => ?_, fun c hc => ?_⟩
      · by_cases e : c = b
        · subst e; exact hheard f hf
        · rw [hx.other _ e]; exact h.lo.heard c f hc hf
      · by_cases e : c = b
        · subst e; exact hwb.1
        · rw [hx.other _ e]; exact h.lo.way c hc
      · by_cases e : c = b
        · subst e; exact hwb.2
        · rw [hx.other _ e]; exact h.lo.best c hc
  · have hcol := hear_col (t.N b) a j qq dd e
    refine ⟨fun c f hc hf => ?_, fun c hc => ?_, fun c hc => ?_⟩
    · by_cases e : c = b
      · subst e; rw [hat, (hcol.1 f).1, (hcol.1 f).2]; exact h.lo.heard c f hc hf
      · rw [hx.other _ e]; exact h.lo.heard c f hc hf
    · by_cases e : c = b
      · subst e; rw [hat, hcol.2.1, hcol.2.2.1]; exact h.lo.way c hc
      · rw [hx.other _ e]; exact h.lo.way c hc
    · by_cases e : c = b
      · subst e; rw [hat, hcol.2.2.2.2.1, hcol.2.2.2.2.2]; exact h.lo.best c hc
      · rw [hx.other _ e]; exact h.lo.best c hc
/-- Behind one news: right stays right; what the right one says makes right. -/
theorem Base.hrRight (hs : Lk.Sol C dst d) (h : Base C dst q d n t) {t' : NT} {n' a b j c f : Nat} {qq dd : Int} (hx : Hr t t' a b j qq dd n') (hj : j < 6) (hcap : j = dst → qq ≤ q) (hcond : j = dst → qq = q → d a ≤ dd) (hc : c < 6) (hf : f < 6) (hcd : c ≠ dst)
    (hdc : d c < 200) (hcf : 0 < C f c) (hsum : d c = d f + C f c) (hold : Right t d dst q c f ∨ (c = b ∧ f = a ∧ j = dst))
    (hway : c = b → f = a → j = dst → qq = q ∧ dd = d a) : Right t' d dst q c f := by
  have hat := hx.at_
  by_cases e : c = b
  · subst e
    by_cases ej : j = dst
    · subst ej
      have hmb := h.str.ok.me c hc
      have hheard : up2 (t.N c).hS a j qq f j = q ∧ up2 (t.N c).hD a j dd f j = d f := by
        simp only [up2]
        by_cases e : f = a
        · subst e
          rw [if_pos ⟨rfl, trivial⟩, if_pos ⟨rfl, trivial⟩]
          exact hway rfl rfl rfl
        · rw [if_neg (fun h => e h.1), if_neg (fun h => e h.1)]
          rcases hold with hold | ⟨_, e', _⟩
          · exact ⟨hold.hS, hold.hD⟩
          · exact absurd e' e
      have hcost : ∀ g, g < 6 → (t.N c).cost g = C g c := fun g hg => by rw [h.str.cost c g hc hg, h.c]; exact h.ok.sym c g hc hg
      have hxx : ∀ g, g < 6 → up2 (t.N c).hS a j qq g j ≤ q ∧ (up2 (t.N c).hS a j qq g j = q → d g ≤ up2 (t.N c).hD a j dd g j) := by
        intro g hg
        simp only [up2]
        by_cases e : g = a
        · subst e; rw [if_pos ⟨rfl, trivial⟩, if_pos ⟨rfl, trivial⟩]
          exact ⟨hcap rfl, hcond rfl⟩
        · rw [if_neg (fun h => e h.1), if_neg (fun h => e h.1)]
          have := (h.str.cap c hc j hj).2.2 g hg
          rw [h.age] at this
          exact ⟨this, h.lo.heard c g hc hg⟩
      have hbs := (h.str.cap c hc j hj).2.1
      rw [h.age] at hbs
      have hp := pick_right (q := q) (d := d) (C := C) (dst := j) (s := { t.N c with hS := up2 (t.N c).hS a j qq, hD := up2 (t.N c).hD a j dd }) (b := c) (f0 := f)
        (by show j ≠ (t.N c).me; rw [hmb]; exact fun e => hcd e.symm) hf hcost hc (fun g hg => (hxx g hg).1) hbs (fun g hg => (hxx g hg).2) (h.lo.best c hc) hs hdc hcf hsum hheard.1 hheard.2
      have h1 := pick_heard { t.N c with hS := up2 (t.N c).hS a j qq, hD := up2 (t.N c).hD a j dd } j
      refine ⟨?_, ?_, ?_, ?_, ?_⟩
      · rw [hat]; unfold hear; rw [h1.1]; exact hheard.1
      · rw [hat]; unfold hear; rw [h1.2.1]; exact hheard.2
      · rw [hat]; unfold hear; exact hp.1
      · rw [hat]; unfold hear; exact hp.2.1
      · rw [hat]; unfold hear; exact hp.2.2
    · have hcol := hear_col (t.N c) a j qq dd (dst := dst) (fun e => ej e.symm)
      rcases hold with hold | ⟨_, _, e'⟩
      · refine ⟨?_, ?_, ?_, ?_, ?_⟩
        · rw [hat, (hcol.1 f).1]; exact hold.hS
        · rw [hat, (hcol.1 f).2]; exact hold.hD
        · rw [hat, hcol.2.1]; exact hold.wS
        · rw [hat, hcol.2.2.1]; exact hold.wD
        · rw [hat, hcol.2.2.2.1]; exact hold.wH
      · exact absurd e' ej
  · rcases hold with hold | ⟨e', _, _⟩
    · refine ⟨?_, ?_, ?_, ?_, ?_⟩ <;> rw [hx.other _ e]
      · exact hold.hS
      · exact hold.hD
      · exact hold.wS
      · exact hold.wD
      · exact hold.wH
    · exact absurd e' e
theorem Base.ev (hs : Lk.Sol C dst d) (h : Base C dst q d n t) {a b j : Nat} (ha : a < 6) (hb : b < 6) (hj : j < 6) (hcab : 0 < C a b) (hne : a ≠ b) : Base C dst q d n (ev t a b j) :=
  h.hr hs (h.hrEv ha hb hj hcab hne) hb hj (fun e => by subst e; exact h.lo.way a ha)
theorem Base.right (hs : Lk.Sol C dst d) (h : Base C dst q d n t) {a b j c f : Nat} (ha : a < 6) (hb : b < 6) (hj : j < 6) (hab : 0 < C a b) (hne : a ≠ b) (hc : c < 6) (hf : f < 6) (hcd : c ≠ dst)
    (hdc : d c < 200) (hcf : 0 < C f c) (hsum : d c = d f + C f c) (hold : Right t d dst q c f ∨ (c = b ∧ f = a ∧ j = dst))
    (hway : c = b → f = a → j = dst → (t.N a).wS dst = q ∧ (t.N a).wD dst = d a) : Right (Nt.ev t a b j) d dst q c f :=
  h.hrRight hs (h.hrEv ha hb hj hab hne) hj (fun e => by subst e; have := (h.str.cap a ha j hj).1; rw [h.age] at this; exact this) (fun e => by subst e; exact h.lo.way a ha) hc hf hcd hdc hcf hsum hold (fun e1 e2 e3 => by subst e3; exact hway e1 e2 rfl)
include hd in
theorem InvA.round (hs : Lk.Sol C dst d) (h : InvA C dst q d n k t) : InvA C dst q d n (k + 1) (roundK t 6) := by
  have hr : ∀ {a b : Nat}, a < 6 → d b < 200 → 0 < C a b → d b = d a + C a b → Lk.rank d b ≤ k + 1 → Lk.rank d a ≤ k ∧ d a < 200 := fun {a b} ha h1 h2 h3 h4 => by
    have := Lk.rank_lt (d := d) (a := a) (v := b) ha (by omega)
    exact ⟨by omega, by omega⟩
  obtain ⟨h1, h2⟩ := roundK_gen (Inv := InvA C dst q d n k) (Φ := fun t b f => b ≠ dst → d b < 200 → Lk.rank d b ≤ k + 1 → d b = d f + C f b → 0 < C f b → Right t d dst q b f) (C := C) (dst := dst) hd
    (fun t h => h.base.c) (fun a ha => h.base.ok.self a ha)
    (fun t a b j ha hb hj hc hne h => by
      refine ⟨h.base.ev hs ha hb hj hc hne, fun c f hc' hf hcd hdc hrk hcf hsum => ?_⟩
      refine h.base.right hs ha hb hj hc hne hc' hf hcd hdc hcf hsum (.inl (h.right c f hc' hf hcd hdc hrk hcf hsum)) (fun e1 e2 e3 => ?_)
      subst e1 e2
      obtain ⟨r1, r2⟩ := hr hf hdc hcf hsum (by omega)
      have := h.way hd hs hf r2 r1
      exact ⟨this.1, this.2.1⟩)
    (fun t a b ha hb hc hne h hbd hdb hrk hsum hcf => by
      obtain ⟨r1, r2⟩ := hr ha hdb hcf hsum hrk
      have := h.way hd hs ha r2 r1
      exact h.base.right hs ha hb hd hc hne hb ha hbd hdb hcf hsum (.inr ⟨rfl, rfl, rfl⟩) (fun _ _ _ => ⟨this.1, this.2.1⟩))
    (fun t a b j f c ha hb hj hc hne hc' hf h hold hcd hdc hrk hsum hcf => by
      refine h.base.right hs ha hb hj hc hne hc' hf hcd hdc hcf hsum (.inl (hold hcd hdc hrk hsum hcf)) (fun e1 e2 e3 => ?_)
      subst e1 e2
      obtain ⟨r1, r2⟩ := hr hf hdc hcf hsum hrk
      have := h.way hd hs hf r2 r1
      exact ⟨this.1, this.2.1⟩)
    h 6 (Nat.le_refl 6)
  exact ⟨h1.base, fun b f hb hf hbd hdb hrk hcf hsum => h2 f b hf hb hcf hbd hdb hrk hsum hcf⟩
include hd in
theorem InvA.rounds (hs : Lk.Sol C dst d) (h : InvA C dst q d n 0 t) : ∀ r, InvA C dst q d n r (Nt.rounds t r)
  | 0 => h
  | r + 1 => (InvA.rounds hs h r).round hd hs
end
end Go.Proofs.Ytdpgbgapelgomaa.Nt
