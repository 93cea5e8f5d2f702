/- Settled, it stays settled. -/
import Derived.Test.YtdpgbgapelgomaaNtMath10
namespace Go.Proofs.Ytdpgbgapelgomaa.Nt
open Nd

/-- The news on their way say what is. -/
def NewsOk (t : NT) (dst : Nat) (q : Int) (d : Nat → Int) : Prop := ∀ x ∈ t.news, x.t.toNat = dst → (d x.a.toNat < 200 → x.q = q ∧ x.d = d x.a.toNat) ∧ (d x.a.toNat = 200 → 200 ≤ x.d)
structure Calm (C : Nat → Nat → Int) (dst : Nat) (q : Int) (d : Nat → Int) (t : NT) : Prop where
  st : ∃ n, Settled C dst q d n t
  news : NewsOk t dst q d
section
variable {C : Nat → Nat → Int} {dst : Nat} {q : Int} {d : Nat → Int} {n : Nat} {t : NT} (hd : dst < 6) (hs : Lk.Sol C dst d)
theorem Settled.sameN (h : Settled C dst q d n t) {t' : NT} {n' : Nat} (hstr : Str t' n') (hN : t'.N = t.N) (hC : t'.C = t.C) : Settled C dst q d n' t' := by
  refine ⟨⟨hstr, hC.trans h.base.c, ?_, ⟨?_, ?_, ?_⟩⟩, ?_, ?_⟩
  · have := h.base.age; unfold age at *; rw [hN]; exact this
  · rw [hN]; exact h.base.lo.heard
  · rw [hN]; exact h.base.lo.way
  · rw [hN]; exact h.base.lo.best
  · intro b f hb hf hbd hdb hcf hsum
    have := h.right b f hb hf hbd hdb hcf hsum
    exact ⟨by rw [hN]; exact this.hS, by rw [hN]; exact this.hD, by rw [hN]; exact this.wS, by rw [hN]; exact this.wD, by rw [hN]; exact this.wH⟩
  · rw [hN]; exact h.dead
include hd hs in
theorem Calm.tellT (h : Calm C dst q d t) (a b : Int) : Calm C dst q d (Nt.tellT t a b).1 := by
  obtain ⟨n, hst⟩ := h.st
  have hstr := hst.base.str.tellT a b
  by_cases hc : (Nt.tellT t a b).2 = 0
  · refine ⟨⟨n, hst.sameN hstr (by unfold Nt.tellT; split; rfl; split; rfl; split <;> rfl) (by unfold Nt.tellT; split; rfl; split; rfl; split <;> rfl)⟩, ?_⟩
    unfold Nt.tellT at hc ⊢
    split at hc
    · cases hc
    · rename_i h1
      rw [if_neg h1]
      split at hc
      · cases hc
      · rename_i h2
        rw [if_neg h2]
        split at hc
        · cases hc
        · rename_i h3
          rw [if_neg h3]
          obtain ⟨⟨a0, a1⟩, _⟩ := Classical.not_not.1 h1
          intro x hx hxt
          rcases List.mem_append.1 hx with hx | hx
          · exact h.news x hx hxt
          · simp only [tellW, List.mem_map, List.mem_range] at hx
            obtain ⟨k, hk, rfl⟩ := hx
            dsimp only at hxt ⊢
            rw [Int.toNat_natCast] at hxt
            subst hxt
            have ha6 : a.toNat < 6 := by omega
            rw [hst.base.str.ok.me _ ha6, Int.toNat_natCast]
            obtain ⟨w1, _, w3⟩ := hst.way hd hs ha6
            exact ⟨fun e => ⟨w3 e, w1⟩, fun e => by rw [w1, e]; omega⟩
  · have e : (Nt.tellT t a b).1 = t := by
      unfold Nt.tellT at *
      split
      · rfl
      · rename_i h1
        rw [if_neg h1] at hc
        split
        · rfl
        · rename_i h2
          rw [if_neg h2] at hc
          split
          · rfl
          · rename_i h3
            rw [if_neg h3] at hc
            exact absurd rfl hc
    rw [e]; exact h
theorem Calm.sub (h : Calm C dst q d t) {l : List Nw} (hl : ∀ x ∈ l, x ∈ t.news) (hlen : l.length ≤ 40) : Calm C dst q d { t with news := l } := by
  obtain ⟨n, hst⟩ := h.st
  exact ⟨⟨n, hst.sameN (hst.base.str.sub hl hlen) rfl rfl⟩, fun x hx => h.news x (hl x hx)⟩
include hs in
theorem Calm.heardT (h : Calm C dst q d t) {x : Nw} (hg : isN x.g) (hx : isN x.a ∧ isN x.t ∧ x.a ≠ x.g ∧ x.q ≤ age t x.t.toNat ∧ betB x.q x.d ((t.N x.a.toNat).bS x.t.toNat) ((t.N x.a.toNat).bD x.t.toNat) = false)
    (hn : x.t.toNat = dst → (d x.a.toNat < 200 → x.q = q ∧ x.d = d x.a.toNat) ∧ (d x.a.toNat = 200 → 200 ≤ x.d)) : Calm C dst q d (Nt.heard t x).1 := by
  obtain ⟨n, hst⟩ := h.st
  have hstr := hst.base.str.heardT hg hx
  refine ⟨⟨n, ?_⟩, h.news⟩
  have hg' := hg
  unfold isN at hg'
  have hb6 : x.g.toNat < 6 := by omega
  have hN : (Nt.heard t x).1.N x.g.toNat = (Nd.hearC (t.N x.g.toNat) x.a x.t x.q x.d).1 := by
    show upN t.N x.g.toNat _ x.g.toNat = _
    exact upN_same _ _ _
  have hoth : ∀ c, c ≠ x.g.toNat → (Nt.heard t x).1.N c = t.N c := fun c hc => upN_other _ _ _ _ hc
  by_cases hc : (Nd.hearC (t.N x.g.toNat) x.a x.t x.q x.d).2 = 0
  · obtain ⟨hbad, hcost, heq⟩ := Nd.hearC_ok hc
    simp only [hearBad] at hbad
    have ha6 : x.a.toNat < 6 := by omega
    have hj6 : x.t.toNat < 6 := by omega
    have hcC : 0 < C x.a.toNat x.g.toNat := by
      have h1 := hst.base.str.cost x.g.toNat x.a.toNat hb6 ha6
      rw [hst.base.c] at h1
      have h2 := hst.base.ok.sym x.g.toNat x.a.toNat hb6 ha6
      have h3 := hst.base.ok.lo x.a.toNat x.g.toNat ha6 hb6
      omega
    have hr : Hr t (Nt.heard t x).1 x.a.toNat x.g.toNat x.t.toNat x.q x.d n := ⟨by rw [hN, heq], hoth, rfl, hstr⟩
    have hhi := hs.hi x.a.toNat ha6
    have hcond : x.t.toNat = dst → x.q = q → d x.a.toNat ≤ x.d := fun e _ => by
      obtain ⟨n1, n2⟩ := hn e
      by_cases e2 : d x.a.toNat < 200
      · rw [(n1 e2).2]; exact Int.le_refl _
      · have := n2 (by omega); omega
    have hcap : x.t.toNat = dst → x.q ≤ q := fun e => by
      have := hx.2.2.2.1
      rw [e, hst.base.age] at this
      exact this
    refine ⟨hst.base.hr hs hr hb6 hj6 hcond, fun c f hc' hf hcd hdc hcf hsum => ?_, fun c f hc' hf hdc hcf hl => ?_⟩
    · refine hst.base.hrRight hs hr hj6 hcap hcond hc' hf hcd hdc hcf hsum (.inl (hst.right c f hc' hf hcd hdc hcf hsum)) (fun e1 e2 e3 => ?_)
      subst e2
      exact (hn e3).1 (by omega)
    · by_cases e : c = x.g.toNat
      · subst e
        rw [hN] at hl
        rcases hearC_heard (s := t.N x.g.toNat) x.a x.t x.q x.d f dst with ⟨_, e2⟩ | ⟨_, e2, e3, e4⟩
        · rw [e2] at hl
          exact hst.dead _ f hc' hf hdc hcf hl
        · rw [e2] at hl
          have := un_closed hst.base.ok hs hf hc' hcf hdc
          rw [e3] at this
          have := (hn e4.symm).2 this
          omega
      · rw [hoth c e] at hl
        exact hst.dead c f hc' hf hdc hcf hl
  · have hsame := Nd.hearC_no hc
    refine hst.sameN hstr ?_ rfl
    funext c
    by_cases e : c = x.g.toNat
    · subst e; rw [hN, hsame]
    · exact hoth c e
include hd hs in
theorem Calm.doT (h : Calm C dst q d t) {k a b c : Int} (h1 : k ≠ 1) (h2 : k ≠ 2) : Calm C dst q d (Nt.doT t k a b c).1 := by
  obtain ⟨n, hst⟩ := h.st
  unfold Nt.doT
  rw [if_neg h1, if_neg h2]
  split
  · exact h.tellT hd hs a b
  · split
    · unfold Nt.hearT; split
      · exact h
      · rename_i ho
        have hx := nwAt_mem (out_no ho)
        have hl := h.sub (l := (Nt.lost t c.toNat).news) (fun _ hx => lost_sub hx) (hst.base.str.ok.lost _).len
        exact Calm.heardT (t := Nt.lost t c.toNat) hs hl (hst.base.str.ok.g _ hx) (hst.base.str.news _ hx) (h.news _ hx)
    · split
      · unfold Nt.loseT; split
        · exact h
        · exact h.sub (l := (Nt.lost t c.toNat).news) (fun _ hx => lost_sub hx) (hst.base.str.ok.lost _).len
      · split
        · have hok := hst.base.str.ok.dblT c
          unfold Nt.dblT at *; split
          · exact h
          · rename_i ho
            rw [if_neg ho] at hok
            split
            · exact h
            · rename_i hl
              rw [if_neg hl] at hok
              refine h.sub (fun x hx => ?_) hok.len
              rcases List.mem_append.1 hx with hx | hx
              · exact hx
              · rw [List.mem_singleton.1 hx]; exact nwAt_mem (out_no ho)
        · exact h
end
/-- What is known of a net that was settled, whatever was told, heard, lost, or came twice since. -/
structure Sc (C : Nat → Nat → Int) (m : Nat) (S : NT) : Prop where
  ok : Lk.CostOK C
  nok : NOk S m
  c : S.C = C
  str : ∃ n, Str S n
  st : ∀ dst, dst < 6 → ∃ q, Calm C dst q (Lk.far C dst) S
theorem doT_C {t : NT} {k a b c : Int} (h1 : k ≠ 1) : (Nt.doT t k a b c).1.C = t.C := by
  unfold Nt.doT
  rw [if_neg h1]
  have htell : ∀ (t : NT) (a b : Int), (Nt.tellT t a b).1.C = t.C := fun t a b => by unfold Nt.tellT; split; rfl; split; rfl; split <;> rfl
  have htells : ∀ (a : Int) (l : List Nat) (t : NT), (Nt.tellsT t a l).1.C = t.C := by
    intro a l
    induction l with
    | nil => intro t; rfl
    | cons b l ih =>
      intro t
      rw [Nt.tellsT]; split
      · rw [ih, htell]
      · exact htell t a b
  split
  · unfold Nt.tickT; split
    · rfl
    · rw [htells]; rfl
  · split
    · exact htell t a b
    · split
      · unfold Nt.hearT; split <;> rfl
      · split
        · unfold Nt.loseT; split <;> rfl
        · split
          · unfold Nt.dblT; split
            · rfl
            · split <;> rfl
          · rfl
theorem Sc.doT {C : Nat → Nat → Int} {m : Nat} {S : NT} (h : Sc C m S) {k a b c : Int} (h1 : k ≠ 1) (h2 : k ≠ 2) : Sc C (m + 1) (Nt.doT S k a b c).1 := by
  refine ⟨h.ok, h.nok.doT k a b c, (doT_C h1).trans h.c, ?_, fun dst hd => ?_⟩
  · obtain ⟨n, hn⟩ := h.str
    exact ⟨n + 1, hn.doT k a b c⟩
  · obtain ⟨q, hq⟩ := h.st dst hd
    exact ⟨q, hq.doT hd (Lk.far_sol h.ok dst) h1 h2⟩
theorem Sc.settle {t : NT} {n m : Nat} (h : Str t n) (hok : NOk (settleT t 14) m) : Sc t.C m (settleT t 14) := by
  refine ⟨h.ok.cost, hok, settleT_C _ _, ?_, fun dst hd => ?_⟩
  · exact ⟨_, (settled h (dst := 0) (r := 14) (by omega) (by omega)).base.str⟩
  · exact ⟨_, ⟨⟨_, settled h hd (r := 14) (by omega)⟩, fun x hx => by rw [settleT_news] at hx; cases hx⟩⟩
theorem Sc.dist {C : Nat → Nat → Int} {m : Nat} {S : NT} (h : Sc C m S) {a b : Nat} (ha : a < 6) (hb : b < 6) : (S.N a).wD b = Lk.far C (a : Int) b := by
  obtain ⟨q, ⟨n, hst⟩, _⟩ := h.st b hb
  rw [(hst.way hb (Lk.far_sol h.ok b) ha).1]
  exact (far_sym h.ok ha hb).symm
end Go.Proofs.Ytdpgbgapelgomaa.Nt
