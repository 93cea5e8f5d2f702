/- One step of a node's script. -/
import Derived.Test.YtdpgbgapelgomaaNdMath2
namespace Go.Proofs.Ytdpgbgapelgomaa.Nd

def stepN (s : NS) (x0 x1 x2 x4 x5 x6 : Int) : NS := if x0 = 0 then (linkC s x2 x1).1 else if x0 = 1 then (hearC s x2 x4 x5 x6).1 else if x0 = 2 then tick s else s
theorem stepN_0 (s : NS) (x1 x2 x4 x5 x6 : Int) : stepN s 0 x1 x2 x4 x5 x6 = (linkC s x2 x1).1 := rfl
theorem stepN_1 (s : NS) (x1 x2 x4 x5 x6 : Int) : stepN s 1 x1 x2 x4 x5 x6 = (hearC s x2 x4 x5 x6).1 := rfl
theorem stepN_2 (s : NS) (x1 x2 x4 x5 x6 : Int) : stepN s 2 x1 x2 x4 x5 x6 = tick s := rfl
theorem stepN_no (s : NS) (x0 x1 x2 x4 x5 x6 : Int) (h0 : x0 ≠ 0) (h1 : x0 ≠ 1) (h2 : x0 ≠ 2) : stepN s x0 x1 x2 x4 x5 x6 = s := by
  rw [stepN, if_neg h0, if_neg h1, if_neg h2]
theorem pick_wSme (s : NS) (k : Nat) : (pick s k).wS s.me = s.wS s.me := by
  unfold Nd.pick; split
  · rfl
  · rename_i hk
    exact up_other _ _ _ _ (fun e => hk e.symm)
theorem all_me (s : NS) : ∀ k, (all s k).me = s.me
  | 0 => rfl
  | k + 1 => by rw [Nd.all, pick_me, all_me s k]
theorem all_wSme (s : NS) : ∀ k, (all s k).wS s.me = s.wS s.me
  | 0 => rfl
  | k + 1 => by
    have := pick_wSme (all s k) k
    rw [all_me] at this
    rw [Nd.all, this, all_wSme s k]
theorem link_me (s : NS) (who : Nat) (c : Int) : (link s who c).me = s.me := by
  unfold Nd.link; dsimp only; split <;> rw [all_me] <;> rfl
theorem link_wSme (s : NS) (who : Nat) (c : Int) : (link s who c).wS s.me = s.wS s.me := by
  unfold Nd.link; dsimp only; split
  · exact all_wSme (forget { s with cost := up s.cost who c } who) 6
  · exact all_wSme { s with cost := up s.cost who c } 6
theorem hear_me (s : NS) (f t : Nat) (q d : Int) : (hear s f t q d).me = s.me := pick_me _ _
theorem hear_wSme (s : NS) (f t : Nat) (q d : Int) : (hear s f t q d).wS s.me = s.wS s.me := pick_wSme { s with hS := up2 s.hS f t q, hD := up2 s.hD f t d } t
theorem linkC_me (s : NS) (who c : Int) : (linkC s who c).1.me = s.me := by unfold linkC; split; rfl; exact link_me _ _ _
theorem hearC_me (s : NS) (f t q d : Int) : (hearC s f t q d).1.me = s.me := by
  unfold hearC; split
  · rfl
  · split
    · rfl
    · exact hear_me _ _ _ _ _
theorem linkC_wSme (s : NS) (who c : Int) : (linkC s who c).1.wS s.me = s.wS s.me := by unfold linkC; split; rfl; exact link_wSme _ _ _
theorem hearC_wSme (s : NS) (f t q d : Int) : (hearC s f t q d).1.wS s.me = s.wS s.me := by
  unfold hearC; split
  · rfl
  · split
    · rfl
    · exact hear_wSme _ _ _ _ _
theorem tick_me (s : NS) : (tick s).me = s.me := rfl
theorem tick_wSme (s : NS) : (tick s).wS s.me = s.wS s.me + 1 := by simp [tick, own]

/-- What holds of a node behind at most n steps. -/
structure Run (s : NS) (n : Nat) : Prop where
  ok : Ok s
  own : Own s
  lo : 0 ≤ s.wS s.me
  hi : s.wS s.me ≤ n
theorem Run.mono {s : NS} {n m : Nat} (h : Run s n) (hm : n ≤ m) : Run s m := ⟨h.ok, h.own, h.lo, by have := h.hi; omega⟩
theorem Run.linkC {s : NS} {n : Nat} (h : Run s n) (who c : Int) : Run (linkC s who c).1 n := ⟨h.ok.linkC who c, h.own.linkC who c, by rw [linkC_me, linkC_wSme]; exact h.lo, by rw [linkC_me, linkC_wSme]; exact h.hi⟩
theorem Run.hearC {s : NS} {n : Nat} (h : Run s n) (f t q d : Int) : Run (hearC s f t q d).1 n := ⟨h.ok.hearC f t q d, h.own.hearC f t q d, by rw [hearC_me, hearC_wSme]; exact h.lo, by rw [hearC_me, hearC_wSme]; exact h.hi⟩
theorem Run.tick {s : NS} {n : Nat} (h : Run s n) : Run (tick s) (n + 1) := ⟨h.ok.tick, Own.tick s, by rw [tick_me, tick_wSme]; have := h.lo; omega, by rw [tick_me, tick_wSme]; have := h.hi; omega⟩
theorem Run.fresh {me : Nat} (h : me < 6) : Run (fresh me) 0 := ⟨Ok.fresh h, Own.fresh me, by simp [Nd.fresh, Nd.own, newK], by simp [Nd.fresh, Nd.own, newK]⟩
theorem Run.step {s : NS} {n : Nat} (h : Run s n) (x0 x1 x2 x4 x5 x6 : Int) : Run (stepN s x0 x1 x2 x4 x5 x6) (n + 1) := by
  unfold stepN
  split
  · exact (h.linkC _ _).mono (by omega)
  · split
    · exact (h.hearC _ _ _ _).mono (by omega)
    · split
      · exact h.tick
      · exact h.mono (by omega)
/-- The node behind the first k steps of a script of 7 cells each. -/
def runN (me : Nat) (X : Nat → Int) : Nat → NS
  | 0 => fresh me
  | k + 1 => stepN (runN me X k) (X (k * 7)) (X (k * 7 + 1)) (X (k * 7 + 2)) (X (k * 7 + 4)) (X (k * 7 + 5)) (X (k * 7 + 6))
theorem runN_run {me : Nat} (h : me < 6) (X : Nat → Int) : ∀ k, Run (runN me X k) k
  | 0 => Run.fresh h
  | k + 1 => (runN_run h X k).step _ _ _ _ _ _
theorem stepN_me (s : NS) (x0 x1 x2 x4 x5 x6 : Int) : (stepN s x0 x1 x2 x4 x5 x6).me = s.me := by
  unfold stepN; split
  · exact linkC_me _ _ _
  · split
    · exact hearC_me _ _ _ _ _
    · split <;> rfl
theorem runN_me (me : Nat) (X : Nat → Int) : ∀ k, (runN me X k).me = me
  | 0 => rfl
  | k + 1 => by rw [runN, stepN_me, runN_me me X k]
end Go.Proofs.Ytdpgbgapelgomaa.Nd
