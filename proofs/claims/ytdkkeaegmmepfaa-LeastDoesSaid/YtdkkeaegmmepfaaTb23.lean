/- A table that the call made, through sets: what stays. -/
import Derived.Test.YtdkkeaegmmepfaaTb22
import Derived.Test.YtdkkeaegmmepfaaTbMath
namespace Go.Proofs.Ytdkkeaegmmepfaa
open Go.RowKit Go.Deep

structure Ow (w wr : World) (t : Nat) (v : Value) (L : List Tb.Rt) : Prop where
  at_ : TAt wr t v L
  new : w.heap.size ≤ t
  own : ∀ g, v.ownBlock = some g → w.heap.size ≤ g
  f : Fr NoB w wr
theorem Two.ow {w wr : World} {t : Nat} {v : Value} {a : Option Addr} {L : List Tb.Rt} (h : Two w wr t v a L) : Ow w wr t v L := ⟨h.at_, h.new, h.own, h.f⟩
theorem Ow.keep0 {w wr wx : World} {t : Nat} {v : Value} {L : List Tb.Rt} (h : Ow w wr t v L) (hf : Fr NoB wr wx) : Ow w wx t v L := ⟨h.at_.keep0 hf, h.new, h.own, h.f.trans hf⟩
theorem Ow.set {w wr wx : World} {t : Nat} {v v' : Value} {L L' : List Tb.Rt} (h : Ow w wr t v L) (hT : TAt wx t v' L') (hf : Fr (TB t v) wr wx) (ho : ∀ g, v'.ownBlock = some g → v.ownBlock = some g ∨ wr.heap.size ≤ g) : Ow w wx t v' L' :=
  ⟨hT, h.new, fun g hg => by
    rcases ho g hg with k | k
    · exact h.own g k
    · have := h.f.size; omega, h.f.noB hf h.new h.own⟩
theorem Ow.nb {w wr : World} {t : Nat} {v : Value} {L : List Tb.Rt} (h : Ow w wr t v L) {b : Nat} (hb : b < w.heap.size) : ¬ TB t v b := fun e => by
  rcases e with e | e
  · have := h.new; omega
  · have := h.own b e; omega
/-- A slice that no set turns. -/
def Sep (wr : World) (t : Nat) (v : Value) (a : Option Addr) : Prop := ∀ q, a = some q → ¬ TB t v q.block ∧ q.block < wr.heap.size
theorem Sep.keep0 {wr wx : World} {t : Nat} {v : Value} {a : Option Addr} (h : Sep wr t v a) (hf : Fr NoB wr wx) : Sep wx t v a := fun q hq => ⟨(h q hq).1, Nat.lt_of_lt_of_le (h q hq).2 hf.size⟩
theorem Sep.set {wr wx : World} {t : Nat} {v v' : Value} {a : Option Addr} (h : Sep wr t v a) (hf : Fr (TB t v) wr wx) (ho : ∀ g, v'.ownBlock = some g → v.ownBlock = some g ∨ wr.heap.size ≤ g) : Sep wx t v' a := fun q hq => by
  obtain ⟨h1, h2⟩ := h q hq
  refine ⟨fun e => ?_, Nat.lt_of_lt_of_le h2 hf.size⟩
  rcases e with e | e
  · exact h1 (.inl e)
  · rcases ho _ e with k | k
    · exact h1 (.inr k)
    · omega
theorem Rs.sep {wr wx : World} {t : Nat} {v : Value} {a : Option Addr} {L : List Tb.Rt} (h : Rs wr a L) (hs : Sep wr t v a) (hf : Fr (TB t v) wr wx) : Rs wx a L := h.keep hf (fun p hp => (hs p hp).1)
theorem clone_sep {wr wx : World} {t : Nat} {v : Value} {L : List Tb.Rt} (h : TAt wr t v L) {a : Option Addr} {n c : Nat} {K : List Tb.Rt} (hv : SlR wx wr.heap.size (.slice a n c) K) : Sep wx t v a := fun q hq => by
  subst hq
  obtain ⟨_, cap, e, _, hb, _⟩ := hv.shape
  cases e
  obtain ⟨h1, h2⟩ := hb q rfl
  refine ⟨fun e => ?_, (World.ownsRow.lt hv _ h2).2⟩
  rcases e with e | e
  · have := World.rowIs.lt h.row; omega
  · have := (World.ownsRow.lt h.sl _ e).2; omega
end Go.Proofs.Ytdkkeaegmmepfaa
